/- The evaluator, the symbolic evaluator and their soundness, part 6 of 6: for every program and every world. -/
import Derived.Test.YtijiddndddjleaaA5
set_option linter.all false
set_option linter.unusedVariables false
set_option linter.unusedSimpArgs false
section EvFast
namespace Go.Ev.Fast
open Go.Ev
noncomputable section
def gnode {α:Type} (v:Option α) (_ _:T α) (il ir:Nat→Option α) (n:Nat):Option α:= @Bool.rec (fun _=>Option α) (@Bool.rec (fun _=>Option α) (ir (Nat.sub (Nat.div n 2) 1)) (il (Nat.div n 2)) (Nat.beq (Nat.mod n 2) 1)) v (Nat.beq n 0)
theorem gnode_eq {α:Type} (v:Option α) (l r:T α) (il ir:Nat→Option α) (n:Nat):gnode v l r il ir n=bif Nat.beq n 0 then v else bif Nat.beq (Nat.mod n 2) 1 then il (Nat.div n 2) else ir (Nat.sub (Nat.div n 2) 1):=by
 unfold gnode;cases Nat.beq n 0<;>cases Nat.beq (Nat.mod n 2) 1<;>rfl
def tget {α:Type} (t:T α):Nat→Option α:= @T.rec α (fun _=>Nat→Option α) (fun _=>none) gnode t
theorem tget_eq {α:Type}:∀(t:T α) (n:Nat),tget t n=t.get n
 | .leaf,_=>rfl
 | .node v l r,n=>by
  show gnode v l r (tget l) (tget r) n=_
  have e1:Nat.mod n 2=n%2:=rfl
  have e2:Nat.div n 2=n/2:=rfl
  have e3:Nat.sub (n/2) 1=n/2 - 1:=rfl
  simp only[gnode_eq,T.get,tget_eq l,tget_eq r,e1,e2,e3];by_cases h:n=0
  ·subst h;rfl
  ·have h1:Nat.beq n 0=false:=by cases n with
   |zero=>exact absurd rfl h
   |succ m=>rfl
   rw[h1,if_neg h,cond_false];by_cases h2:n%2=1
   ·rw[if_pos h2,h2];rfl
   ·have h3:n%2=0:=by omega
    rw[if_neg h2,h3];rfl
structure N16 (α:Type) where
 (a0 a1 a2 a3 a4 a5 a6 a7 a8 a9 aa ab ac ad ae af:α)
structure L16 (α:Type) where
 g:N16 α→α
 s:N16 α→(α→α)→N16 α
def l0 (α:Type):L16 α:=⟨fun n=>n.a0,fun n f=> @N16.rec α (fun _=>(α→α)→N16 α) (fun x0 x1 x2 x3 x4 x5 x6 x7 x8 x9 xa xb xc xd xe xf f=> ⟨f x0,x1,x2,x3,x4,x5,x6,x7,x8,x9,xa,xb,xc,xd,xe,xf⟩) n f⟩
def l1 (α:Type):L16 α:=⟨fun n=>n.a1,fun n f=> @N16.rec α (fun _=>(α→α)→N16 α) (fun x0 x1 x2 x3 x4 x5 x6 x7 x8 x9 xa xb xc xd xe xf f=> ⟨x0,f x1,x2,x3,x4,x5,x6,x7,x8,x9,xa,xb,xc,xd,xe,xf⟩) n f⟩
def l2 (α:Type):L16 α:=⟨fun n=>n.a2,fun n f=> @N16.rec α (fun _=>(α→α)→N16 α) (fun x0 x1 x2 x3 x4 x5 x6 x7 x8 x9 xa xb xc xd xe xf f=> ⟨x0,x1,f x2,x3,x4,x5,x6,x7,x8,x9,xa,xb,xc,xd,xe,xf⟩) n f⟩
def l3 (α:Type):L16 α:=⟨fun n=>n.a3,fun n f=> @N16.rec α (fun _=>(α→α)→N16 α) (fun x0 x1 x2 x3 x4 x5 x6 x7 x8 x9 xa xb xc xd xe xf f=> ⟨x0,x1,x2,f x3,x4,x5,x6,x7,x8,x9,xa,xb,xc,xd,xe,xf⟩) n f⟩
def l4 (α:Type):L16 α:=⟨fun n=>n.a4,fun n f=> @N16.rec α (fun _=>(α→α)→N16 α) (fun x0 x1 x2 x3 x4 x5 x6 x7 x8 x9 xa xb xc xd xe xf f=> ⟨x0,x1,x2,x3,f x4,x5,x6,x7,x8,x9,xa,xb,xc,xd,xe,xf⟩) n f⟩
def l5 (α:Type):L16 α:=⟨fun n=>n.a5,fun n f=> @N16.rec α (fun _=>(α→α)→N16 α) (fun x0 x1 x2 x3 x4 x5 x6 x7 x8 x9 xa xb xc xd xe xf f=> ⟨x0,x1,x2,x3,x4,f x5,x6,x7,x8,x9,xa,xb,xc,xd,xe,xf⟩) n f⟩
def l6 (α:Type):L16 α:=⟨fun n=>n.a6,fun n f=> @N16.rec α (fun _=>(α→α)→N16 α) (fun x0 x1 x2 x3 x4 x5 x6 x7 x8 x9 xa xb xc xd xe xf f=> ⟨x0,x1,x2,x3,x4,x5,f x6,x7,x8,x9,xa,xb,xc,xd,xe,xf⟩) n f⟩
def l7 (α:Type):L16 α:=⟨fun n=>n.a7,fun n f=> @N16.rec α (fun _=>(α→α)→N16 α) (fun x0 x1 x2 x3 x4 x5 x6 x7 x8 x9 xa xb xc xd xe xf f=> ⟨x0,x1,x2,x3,x4,x5,x6,f x7,x8,x9,xa,xb,xc,xd,xe,xf⟩) n f⟩
def l8 (α:Type):L16 α:=⟨fun n=>n.a8,fun n f=> @N16.rec α (fun _=>(α→α)→N16 α) (fun x0 x1 x2 x3 x4 x5 x6 x7 x8 x9 xa xb xc xd xe xf f=> ⟨x0,x1,x2,x3,x4,x5,x6,x7,f x8,x9,xa,xb,xc,xd,xe,xf⟩) n f⟩
def l9 (α:Type):L16 α:=⟨fun n=>n.a9,fun n f=> @N16.rec α (fun _=>(α→α)→N16 α) (fun x0 x1 x2 x3 x4 x5 x6 x7 x8 x9 xa xb xc xd xe xf f=> ⟨x0,x1,x2,x3,x4,x5,x6,x7,x8,f x9,xa,xb,xc,xd,xe,xf⟩) n f⟩
def l10 (α:Type):L16 α:=⟨fun n=>n.aa,fun n f=> @N16.rec α (fun _=>(α→α)→N16 α) (fun x0 x1 x2 x3 x4 x5 x6 x7 x8 x9 xa xb xc xd xe xf f=> ⟨x0,x1,x2,x3,x4,x5,x6,x7,x8,x9,f xa,xb,xc,xd,xe,xf⟩) n f⟩
def l11 (α:Type):L16 α:=⟨fun n=>n.ab,fun n f=> @N16.rec α (fun _=>(α→α)→N16 α) (fun x0 x1 x2 x3 x4 x5 x6 x7 x8 x9 xa xb xc xd xe xf f=> ⟨x0,x1,x2,x3,x4,x5,x6,x7,x8,x9,xa,f xb,xc,xd,xe,xf⟩) n f⟩
def l12 (α:Type):L16 α:=⟨fun n=>n.ac,fun n f=> @N16.rec α (fun _=>(α→α)→N16 α) (fun x0 x1 x2 x3 x4 x5 x6 x7 x8 x9 xa xb xc xd xe xf f=> ⟨x0,x1,x2,x3,x4,x5,x6,x7,x8,x9,xa,xb,f xc,xd,xe,xf⟩) n f⟩
def l13 (α:Type):L16 α:=⟨fun n=>n.ad,fun n f=> @N16.rec α (fun _=>(α→α)→N16 α) (fun x0 x1 x2 x3 x4 x5 x6 x7 x8 x9 xa xb xc xd xe xf f=> ⟨x0,x1,x2,x3,x4,x5,x6,x7,x8,x9,xa,xb,xc,f xd,xe,xf⟩) n f⟩
def l14 (α:Type):L16 α:=⟨fun n=>n.ae,fun n f=> @N16.rec α (fun _=>(α→α)→N16 α) (fun x0 x1 x2 x3 x4 x5 x6 x7 x8 x9 xa xb xc xd xe xf f=> ⟨x0,x1,x2,x3,x4,x5,x6,x7,x8,x9,xa,xb,xc,xd,f xe,xf⟩) n f⟩
def l15 (α:Type):L16 α:=⟨fun n=>n.af,fun n f=> @N16.rec α (fun _=>(α→α)→N16 α) (fun x0 x1 x2 x3 x4 x5 x6 x7 x8 x9 xa xb xc xd xe xf f=> ⟨x0,x1,x2,x3,x4,x5,x6,x7,x8,x9,xa,xb,xc,xd,xe,f xf⟩) n f⟩
def lens1 (α:Type) (d:Nat):L16 α:=bif Nat.beq d 0 then l0 α else bif Nat.beq d 1 then l1 α else bif Nat.beq d 2 then l2 α else bif Nat.beq d 3 then l3 α else bif Nat.beq d 4 then l4 α else bif Nat.beq d 5 then l5 α else bif Nat.beq d 6 then l6 α else bif Nat.beq d 7 then l7 α else bif Nat.beq d 8 then l8 α else bif Nat.beq d 9 then l9 α else bif Nat.beq d 10 then l10 α else bif Nat.beq d 11 then l11 α else bif Nat.beq d 12 then l12 α else bif Nat.beq d 13 then l13 α else bif Nat.beq d 14 then l14 α else l15 α
def lens (α:Type) (d:Nat):L16 α:= @Nat.rec (fun _=>L16 α) (l0 α) (fun d _=>lens1 α (Nat.succ d)) d
abbrev E :=N16 (N16 Value)
inductive FObj where
 |cells (st:St) (elem:TypeId) (c:List Value)
 |dead
 |map (es:List MapEntry) (clock:Nat)
 |iter (s:ByteArray) (pos:Nat)
 |loop (e:E) (params:List Tmp) (assign body:EC) (st:LoopState) (pend:Option EC)
abbrev M1 :=N16 (Option FObj)
abbrev M2 :=N16 M1
abbrev M3 :=N16 M2
abbrev M4 :=N16 M3
structure SF where
 size:Nat
 m:M4
inductive RX where
 |fail
 |norm (e:E) (s:SF)
 |exit (id:Nat) (e:E) (s:SF)
 |ret (e:E) (s:SF)
inductive RV where
 |fail
 |val (v:Value) (s:SF)
structure LookF where
 op:I
 e:E
 v:Value
 lo:Nat
 hi:Nat
abbrev K :=Value→SF→RX
abbrev CF :=Callee→List Value→SF→RV
abbrev IH :=CF→E→SF→RX
def all16 {α:Type} (x:α):N16 α:=⟨x,x,x,x,x,x,x,x,x,x,x,x,x,x,x,x⟩
def e0 :E:=all16 (all16 undefE)
def m0 :M4:=all16 (all16 (all16 (all16 none)))
def s0 :SF:=⟨0,m0⟩
structure SelE where
 g:E→Value
 p:Value→E→SF→(E→SF→RX)→RX
def selE2 (x:L16 (N16 Value)) (y:L16 Value):SelE:= @L16.rec (N16 Value) (fun _=>SelE) (fun xg xs=> @L16.rec Value (fun _=>SelE) (fun yg ys=> ⟨fun e=>yg (xg e),fun v e s c=>c (xs e fun n=>ys n fun _=>v) s⟩) y) x
def selE (n:Nat):SelE:=bif Nat.blt n 256 then selE2 (lens _ (Nat.div n 16)) (lens _ (Nat.mod n 16)) else⟨fun _=>undefE,fun _ _ _ _=> .fail⟩
structure SelM where
 g:M4→Option FObj
 p:M4→FObj→M4
 ok:Bool
def selM4 (x:L16 M3) (y:L16 M2) (z:L16 M1) (w:L16 (Option FObj)):SelM:= @L16.rec M3 (fun _=>SelM) (fun xg xs=> @L16.rec M2 (fun _=>SelM) (fun yg ys=> @L16.rec M1 (fun _=>SelM) (fun zg zs=> @L16.rec (Option FObj) (fun _=>SelM) (fun wg ws=> ⟨fun m=>wg (zg (yg (xg m))),fun m o=>xs m fun m=>ys m fun m=>zs m fun m=>ws m fun _=>some o,true⟩) w) z) y) x
def selM (n:Nat):SelM:=bif Nat.blt n 65536 then selM4 (lens _ (Nat.div n 4096)) (lens _ (Nat.mod (Nat.div n 256) 16)) (lens _ (Nat.mod (Nat.div n 16) 16)) (lens _ (Nat.mod n 16)) else⟨fun _=>none,fun m _=>m,false⟩
def eget (t:Nat) (e:E):Value:=(selE t).g e
def sget (b:Nat) (s:SF):Option FObj:=(selM b).g s.m
def sset (b:Nat) (o:FObj) (s:SF):SF:=⟨s.size,(selM b).p s.m o⟩
def allocK :FObj→SF→(Nat→SF→RX)→RX:=fun o s k=> @SF.rec (fun _=>FObj→(Nat→SF→RX)→RX) (fun n m o k=> @Nat.rec (fun _=>M4→FObj→(Nat→SF→RX)→RX) (fun _ _ _=> .fail) (fun n _ m o k=> @Bool.rec (fun _=>Nat→M4→FObj→(Nat→SF→RX)→RX) (fun _ _ _ _=> .fail) (fun n m o k=>k n ⟨Nat.succ n,(selM n).p m o⟩) (selM n).ok n m o k) (Nat.add n 1) m o k) s o k
def eeval :Operand→E→Value:=fun x e=> @Operand.rec (fun _=>E→Value) (fun t e=>eget t e) (fun v _=>v) (fun g _=> .pointer (some ⟨g,0,none⟩)) (fun f _=> .func (.func f) #[] #[]) x e
def evalL :List Operand→E→List Value:=fun l e=> @List.rec Operand (fun _=>E→List Value) (fun _=> []) (fun x _ ih e=>eeval x e::ih e) l e
def retK :Option Value→SF→K→RX:=fun v s k=> @Option.rec Value (fun _=>SF→K→RX) (fun _ _=> .fail) (fun v s k=>k v s) v s k
def retP :Option (Value×Store)→SF→K→RX:=fun r s k=> @Option.rec (Value×Store) (fun _=>SF→K→RX) (fun _ _=> .fail) (fun p s k=>k p.1 s) r s k
def iadd :Int→Int→Int:=fun a b=> @Int.rec (fun _=>Int→Int) (fun m b=> @Int.rec (fun _=>Nat→Int) (fun n m=>Int.ofNat (Nat.add m n)) (fun n m=>Int.add (Int.ofNat m) (Int.negSucc n)) b m) (fun m b=> @Int.rec (fun _=>Nat→Int) (fun n m=>Int.add (Int.negSucc m) (Int.ofNat n)) (fun n m=>Int.negSucc (Nat.add (Nat.add m n) 1)) b m) a b
def isub :Int→Int→Int:=fun a b=> @Int.rec (fun _=>Int→Int) (fun m b=> @Int.rec (fun _=>Nat→Int) (fun n m=> @Bool.rec (fun _=>Nat→Nat→Int) (fun m n=>Int.negSucc (Nat.sub (Nat.sub n m) 1)) (fun m n=>Int.ofNat (Nat.sub m n)) (Nat.ble n m) m n) (fun n m=>Int.ofNat (Nat.add (Nat.add m n) 1)) b m) (fun m b=> @Int.rec (fun _=>Nat→Int) (fun n m=>Int.negSucc (Nat.add m n)) (fun n m=>Int.sub (Int.negSucc m) (Int.negSucc n)) b m) a b
def imul :Int→Int→Int:=fun a b=> @Int.rec (fun _=>Int→Int) (fun m b=> @Int.rec (fun _=>Nat→Int) (fun n m=>Int.ofNat (Nat.mul m n)) (fun n m=>Int.mul (Int.ofNat m) (Int.negSucc n)) b m) (fun m b=> @Int.rec (fun _=>Nat→Int) (fun n m=>Int.mul (Int.negSucc m) (Int.ofNat n)) (fun n m=>Int.ofNat (Nat.mul (Nat.add m 1) (Nat.add n 1))) b m) a b
def ilt :Int→Int→Bool:=fun a b=> @Int.rec (fun _=>Int→Bool) (fun m b=> @Int.rec (fun _=>Nat→Bool) (fun n m=>Nat.blt m n) (fun n m=>false) b m) (fun m b=> @Int.rec (fun _=>Nat→Bool) (fun n m=>true) (fun n m=>Nat.blt n m) b m) a b
def ile :Int→Int→Bool:=fun a b=> @Int.rec (fun _=>Int→Bool) (fun m b=> @Int.rec (fun _=>Nat→Bool) (fun n m=>Nat.ble m n) (fun n m=>false) b m) (fun m b=> @Int.rec (fun _=>Nat→Bool) (fun n m=>true) (fun n m=>Nat.ble n m) b m) a b
def ieq :Int→Int→Bool:=fun a b=> @Int.rec (fun _=>Int→Bool) (fun m b=> @Int.rec (fun _=>Nat→Bool) (fun n m=>Nat.beq m n) (fun n m=>false) b m) (fun m b=> @Int.rec (fun _=>Nat→Bool) (fun n m=>false) (fun n m=>Nat.beq m n) b m) a b
def iquo :Int→Int→Option Int:=fun a b=> @Int.rec (fun _=>Int→Option Int) (fun m b=> @Int.rec (fun _=>Nat→Option Int) (fun n m=>bif Nat.beq n 0 then none else some (Int.ofNat (Nat.div m n))) (fun n m=>none) b m) (fun m b=> @Int.rec (fun _=>Nat→Option Int) (fun n m=>none) (fun n m=>none) b m) a b
def irem :Int→Int→Option Int:=fun a b=> @Int.rec (fun _=>Int→Option Int) (fun m b=> @Int.rec (fun _=>Nat→Option Int) (fun n m=>bif Nat.beq n 0 then none else some (Int.ofNat (Nat.mod m n))) (fun n m=>none) b m) (fun m b=> @Int.rec (fun _=>Nat→Option Int) (fun n m=>none) (fun n m=>none) b m) a b
def fitK :Int→SF→K→RX:=fun n s k=> @Int.rec (fun _=>SF→K→RX) (fun m s k=> @Bool.rec (fun _=>Nat→SF→K→RX) (fun _ _ _=> .fail) (fun m s k=>k (.int .i64 (.ofNat m)) s) (Nat.blt m 9223372036854775808) m s k) (fun m s k=> @Bool.rec (fun _=>Nat→SF→K→RX) (fun _ _ _=> .fail) (fun m s k=>k (.int .i64 (.negSucc m)) s) (Nat.blt m 9223372036854775808) m s k) n s k
def fitO :Option Int→BinOp→Int→Int→SF→K→RX:=fun r op a b s k=> @Option.rec Int (fun _=>BinOp→Int→Int→SF→K→RX) (fun op a b s k=>retK (binV op (.int .i64 a) (.int .i64 b)) s k) (fun n _ _ _ s k=>fitK n s k) r op a b s k
def slowK :BinOp→Int→Int→SF→K→RX:=fun op a b s k=>retK (binV op (.int .i64 a) (.int .i64 b)) s k
def not' (b:Bool):Bool:= @Bool.rec (fun _=>Bool) true false b
def nth :List Value→Nat→Option Value:=fun l n=> @List.rec Value (fun _=>Nat→Option Value) (fun _=>none) (fun x _ ih n=> @Nat.rec (fun _=>Value→(Nat→Option Value)→Option Value) (fun x _=>some x) (fun m _ _ ih=>ih m) n x ih) l n
def cutL :List Value→Nat→Nat→Option (List Value):=fun l o n=> @List.rec Value (fun _=>Nat→Nat→Option (List Value)) (fun o n=> @Nat.rec (fun _=>Nat→Option (List Value)) (fun n=> @Nat.rec (fun _=>Option (List Value)) (some []) (fun _ _=>none) n) (fun _ _ _=>none) o n)
 (fun x _ ih o n=> @Nat.rec (fun _=>Value→(Nat→Nat→Option (List Value))→Nat→Option (List Value)) (fun x ih n=> @Nat.rec (fun _=>Value→(Nat→Nat→Option (List Value))→Option (List Value)) (fun _ _=>some []) (fun m _ x ih=> @Option.rec (List Value) (fun _=>Value→Option (List Value)) (fun _=>none) (fun r x=>some (x::r)) (ih 0 m) x) n x ih) (fun o _ _ ih n=>ih o n) o x ih n) l o n
def lenL :List Value→Nat:=fun l=> @List.rec Value (fun _=>Nat) 0 (fun _ _ n=>Nat.add n 1) l
def appL :List Value→List Value→List Value:=fun l r=> @List.rec Value (fun _=>List Value→List Value) (fun r=>r) (fun x _ ih r=>x::ih r) l r
def over :List Value→List Value→Option (List Value):=fun vs c=> @List.rec Value (fun _=>List Value→Option (List Value)) (fun c=>some c) (fun v _ ih c=> @List.rec Value (fun _=>Value→(List Value→Option (List Value))→Option (List Value)) (fun _ _=>none) (fun _ c _ v ih=> @Option.rec (List Value) (fun _=>Value→Option (List Value)) (fun _=>none) (fun r v=>some (v::r)) (ih c) v) c v ih) vs c
def splice :Nat→List Value→List Value→Option (List Value):=fun n c vs=> @Nat.rec (fun _=>List Value→List Value→Option (List Value)) (fun c vs=>over vs c) (fun _ ih c vs=> @List.rec Value (fun _=>(List Value→List Value→Option (List Value))→List Value→Option (List Value)) (fun _ _=>none) (fun x c _ ih vs=> @Option.rec (List Value) (fun _=>Value→Option (List Value)) (fun _=>none) (fun r x=>some (x::r)) (ih c vs) x) c ih vs) n c vs
def oneQ :Value→Bool:=fun v=> @Value.rec (fun _=>Bool) (fun _=>Unit) (fun _=>Unit) (fun _=>true) (fun _ _=>true) (fun _ _=>true) (fun _ _ _=>true) (fun _=>true) (fun _=>true) (fun _ _ _=>true) (fun _=>true) (fun _=>true) (fun _ _ _ _ _=>true) true (fun _ _ _=>true) true (fun _ _=>false) (fun _ _=>false) (fun _ _=>()) () (fun _ _ _ _=>()) v
def allOne :List Value→Bool:=fun l=> @List.rec Value (fun _=>Bool) true (fun v _ ih=> @Bool.rec (fun _=>Bool→Bool) (fun _=>false) (fun b=>b) (oneQ v) ih) l
def vcl :Value→List Value:=fun v=> @Value.rec (fun _=>Value→List Value) (fun _=>Unit) (fun _=>Unit) (fun _=>(fun v=> [v])) (fun _ _=>(fun v=> [v])) (fun _ _=>(fun v=> [v])) (fun _ _ _=>(fun v=> [v])) (fun _=>(fun v=> [v])) (fun _=>(fun v=> [v])) (fun _ _ _=>(fun v=> [v])) (fun _=>(fun v=> [v])) (fun _=>(fun v=> [v])) (fun _ _ _ _ _=>(fun v=> [v])) (fun v=> [v]) (fun _ _ _=>(fun v=> [v])) (fun v=> [v]) (fun cs _ _=>cs.toList) (fun _ _=>(fun v=> [v])) (fun _ _=>()) () (fun _ _ _ _=>()) v v
def aggK :Option (List Value)→SF→K→RX:=fun r s k=> @Option.rec (List Value) (fun _=>SF→K→RX) (fun _ _=> .fail) (fun c s k=>k (.agg ⟨c⟩) s) r s k
def cellK :Option Nat→Nat→List Value→SF→K→RX:=fun n off c s k=> @Option.rec Nat (fun _=>Nat→List Value→SF→K→RX) (fun off c s k=>retK (nth c off) s k) (fun n off c s k=>aggK (cutL c off n) s k) n off c s k
def loadO :Option FObj→Nat→Option Nat→SF→K→RX:=fun o off n s k=> @Option.rec FObj (fun _=>Nat→Option Nat→SF→K→RX) (fun _ _ _ _=> .fail) (fun o off n s k=> @FObj.rec (fun _=>Nat→Option Nat→SF→K→RX) (fun _ _ c off n s k=>cellK n off c s k) (fun _ _ _ _=> .fail) (fun _ _=>(fun _ _ _ _=> .fail)) (fun _ _=>(fun _ _ _ _=> .fail)) (fun _ _ _ _ _ _=>(fun _ _ _ _=> .fail)) o off n s k) o off n s k
def loadA :Option Addr→Option Nat→SF→K→RX:=fun a n s k=> @Option.rec Addr (fun _=>Option Nat→SF→K→RX) (fun _ _ _=> .fail) (fun p n s k=> @Addr.rec (fun _=>Option Nat→SF→K→RX) (fun b off _ n s k=>loadO (sget b s) off n s k) p n s k) a n s k
def loadK :Value→Option Nat→SF→K→RX:=fun v n s k=> @Value.rec (fun _=>Option Nat→SF→K→RX) (fun _=>Unit) (fun _=>Unit) (fun _=>(fun _ _ _=> .fail)) (fun _ _=>(fun _ _ _=> .fail)) (fun _ _=>(fun _ _ _=> .fail)) (fun _ _ _=>(fun _ _ _=> .fail)) (fun _=>(fun _ _ _=> .fail)) (fun a n s k=>loadA a n s k) (fun _ _ _=>(fun _ _ _=> .fail)) (fun _=>(fun _ _ _=> .fail)) (fun _=>(fun _ _ _=> .fail)) (fun _ _ _ _ _=>(fun _ _ _=> .fail)) (fun _ _ _=> .fail) (fun _ _ _=>(fun _ _ _=> .fail)) (fun _ _ _=> .fail) (fun _ _=>(fun _ _ _=> .fail)) (fun _ _=>(fun _ _ _=> .fail)) (fun _ _=>()) () (fun _ _ _ _=>()) v n s k
def setC :Option (List Value)→St→TypeId→Nat→SF→(SF→RX)→RX:=fun r st e b s k=> @Option.rec (List Value) (fun _=>St→TypeId→Nat→SF→(SF→RX)→RX) (fun _ _ _ _ _=> .fail) (fun c st e b s k=>k (sset b (.cells st e c) s)) r st e b s k
def storeC :St→TypeId→List Value→Nat→Nat→List Value→SF→(SF→RX)→RX:=fun st e c b off vs s k=> @St.rec (fun _=>TypeId→List Value→Nat→Nat→List Value→SF→(SF→RX)→RX) (fun _ _ _ _ _ _ _=> .fail) (fun e c b off vs s k=>setC (splice off c vs) .rw e b s k) (fun e c b off vs s k=>setC (splice off c vs) .grow e b s k) st e c b off vs s k
def storeO :Option FObj→Nat→Nat→List Value→SF→(SF→RX)→RX:=fun o b off vs s k=> @Option.rec FObj (fun _=>Nat→Nat→List Value→SF→(SF→RX)→RX) (fun _ _ _ _ _=> .fail) (fun o b off vs s k=> @FObj.rec (fun _=>Nat→Nat→List Value→SF→(SF→RX)→RX) (fun st e c b off vs s k=> @Bool.rec (fun _=>St→TypeId→List Value→Nat→Nat→List Value→SF→(SF→RX)→RX) (fun _ _ _ _ _ _ _ _=> .fail) (fun st e c b off vs s k=>storeC st e c b off vs s k) (allOne vs) st e c b off vs s k) (fun _ _ _ _ _=> .fail) (fun _ _=>(fun _ _ _ _ _=> .fail)) (fun _ _=>(fun _ _ _ _ _=> .fail)) (fun _ _ _ _ _ _=>(fun _ _ _ _ _=> .fail)) o b off vs s k) o b off vs s k
def storeA :Option Addr→List Value→SF→(SF→RX)→RX:=fun a vs s k=> @Option.rec Addr (fun _=>List Value→SF→(SF→RX)→RX) (fun _ _ _=> .fail) (fun p vs s k=> @Addr.rec (fun _=>List Value→SF→(SF→RX)→RX) (fun b off _ vs s k=>storeO (sget b s) b off vs s k) p vs s k) a vs s k
def storeK :Value→Nat→List Value→SF→K→RX:=fun v n vs s k=> @Value.rec (fun _=>Nat→List Value→SF→K→RX) (fun _=>Unit) (fun _=>Unit) (fun _=>(fun _ _ _ _=> .fail)) (fun _ _=>(fun _ _ _ _=> .fail)) (fun _ _=>(fun _ _ _ _=> .fail)) (fun _ _ _=>(fun _ _ _ _=> .fail)) (fun _=>(fun _ _ _ _=> .fail)) (fun a n vs s k=> @Bool.rec (fun _=>Option Addr→List Value→SF→K→RX) (fun _ _ _ _=> .fail) (fun a vs s k=>storeA a vs s (k undefE)) (Nat.beq (lenL vs) n) a vs s k) (fun _ _ _=>(fun _ _ _ _=> .fail)) (fun _=>(fun _ _ _ _=> .fail)) (fun _=>(fun _ _ _ _=> .fail)) (fun _ _ _ _ _=>(fun _ _ _ _=> .fail)) (fun _ _ _ _=> .fail) (fun _ _ _=>(fun _ _ _ _=> .fail)) (fun _ _ _ _=> .fail) (fun _ _=>(fun _ _ _ _=> .fail)) (fun _ _=>(fun _ _ _ _=> .fail)) (fun _ _=>()) () (fun _ _ _ _=>()) v n vs s k
def fadd :Addr→Nat→Addr:=fun p o=> @Nat.rec (fun _=>Addr→Addr) (fun p=>p) (fun n _ p=> @Addr.rec (fun _=>Nat→Addr) (fun b off _ n=> ⟨b,Nat.add off (Nat.succ n),none⟩) p n) o p
def nilcA :Option Addr→SF→K→RX:=fun a s k=> @Option.rec Addr (fun _=>SF→K→RX) (fun _ _=> .fail) (fun p s k=>k (.pointer (some p)) s) a s k
def nilcF :Fn→Array Value→Array Value→SF→K→RX:=fun f x y s k=> @Fn.rec (fun _=>Array Value→Array Value→SF→K→RX) (fun g x y s k=>k (.func (.func g) x y) s) (fun _=>(fun _ _ _ _=> .fail)) (fun _ _=>(fun _ _ _ _=> .fail)) (fun _ _ _ _=>(fun _ _ _ _=> .fail)) (fun g x y s k=>k (.func (.yield g) x y) s) f x y s k
def nilcK :Value→SF→K→RX:=fun v s k=> @Value.rec (fun _=>SF→K→RX) (fun _=>Unit) (fun _=>Unit) (fun _=>(fun _ _=> .fail)) (fun _ _=>(fun _ _=> .fail)) (fun _ _=>(fun _ _=> .fail)) (fun _ _ _=>(fun _ _=> .fail)) (fun _=>(fun _ _=> .fail)) (fun a s k=>nilcA a s k) (fun _ _ _=>(fun _ _=> .fail)) (fun _=>(fun _ _=> .fail)) (fun _=>(fun _ _=> .fail)) (fun f x y _ _ s k=>nilcF f x y s k) (fun _ _=> .fail) (fun _ _ _=>(fun _ _=> .fail)) (fun _ _=> .fail) (fun _ _=>(fun _ _=> .fail)) (fun _ _=>(fun _ _=> .fail)) (fun _ _=>()) () (fun _ _ _ _=>()) v s k
def addA :Option Addr→Nat→SF→K→RX:=fun a o s k=> @Option.rec Addr (fun _=>Nat→SF→K→RX) (fun _ _ _=> .fail) (fun p o s k=>k (.pointer (some (fadd p o))) s) a o s k
def addK :Value→Nat→SF→K→RX:=fun v o s k=> @Value.rec (fun _=>Nat→SF→K→RX) (fun _=>Unit) (fun _=>Unit) (fun _=>(fun _ _ _=> .fail)) (fun _ _=>(fun _ _ _=> .fail)) (fun _ _=>(fun _ _ _=> .fail)) (fun _ _ _=>(fun _ _ _=> .fail)) (fun _=>(fun _ _ _=> .fail)) (fun a o s k=>addA a o s k) (fun _ _ _=>(fun _ _ _=> .fail)) (fun _=>(fun _ _ _=> .fail)) (fun _=>(fun _ _ _=> .fail)) (fun _ _ _ _ _=>(fun _ _ _=> .fail)) (fun _ _ _=> .fail) (fun _ _ _=>(fun _ _ _=> .fail)) (fun _ _ _=> .fail) (fun _ _=>(fun _ _ _=> .fail)) (fun _ _=>(fun _ _ _=> .fail)) (fun _ _=>()) () (fun _ _ _ _=>()) v o s k
def atI :Int→Nat→Nat→Addr→SF→K→RX:=fun i len esz p s k=> @Int.rec (fun _=>Nat→Nat→Addr→SF→K→RX) (fun i len esz p s k=> @Bool.rec (fun _=>Nat→Nat→Addr→SF→K→RX) (fun _ _ _ _ _=> .fail) (fun i esz p s k=>k (.pointer (some (fadd p (Nat.mul i esz)))) s) (Nat.blt i len) i esz p s k) (fun _ _ _ _ _ _=> .fail) i len esz p s k
def atV :Value→Nat→Nat→Addr→SF→K→RX:=fun v len esz p s k=> @Value.rec (fun _=>Nat→Nat→Addr→SF→K→RX) (fun _=>Unit) (fun _=>Unit) (fun _=>(fun _ _ _ _ _=> .fail)) (fun _ i len esz p s k=>atI i len esz p s k) (fun _ _=>(fun _ _ _ _ _=> .fail)) (fun _ _ _=>(fun _ _ _ _ _=> .fail)) (fun _=>(fun _ _ _ _ _=> .fail)) (fun _=>(fun _ _ _ _ _=> .fail)) (fun _ _ _=>(fun _ _ _ _ _=> .fail)) (fun _=>(fun _ _ _ _ _=> .fail)) (fun _=>(fun _ _ _ _ _=> .fail)) (fun _ _ _ _ _=>(fun _ _ _ _ _=> .fail)) (fun _ _ _ _ _=> .fail) (fun _ _ _=>(fun _ _ _ _ _=> .fail)) (fun _ _ _ _ _=> .fail) (fun _ _=>(fun _ _ _ _ _=> .fail)) (fun _ _=>(fun _ _ _ _ _=> .fail)) (fun _ _=>()) () (fun _ _ _ _=>()) v len esz p s k
def atA :Option Addr→Nat→Nat→Value→SF→K→RX:=fun a len esz i s k=> @Option.rec Addr (fun _=>Nat→Nat→Value→SF→K→RX) (fun _ _ _ _ _=> .fail) (fun p len esz i s k=>atV i len esz p s k) a len esz i s k
def idxSK :Value→Nat→Value→SF→K→RX:=fun v esz i s k=> @Value.rec (fun _=>Nat→Value→SF→K→RX) (fun _=>Unit) (fun _=>Unit) (fun _=>(fun _ _ _ _=> .fail)) (fun _ _=>(fun _ _ _ _=> .fail)) (fun _ _=>(fun _ _ _ _=> .fail)) (fun _ _ _=>(fun _ _ _ _=> .fail)) (fun _=>(fun _ _ _ _=> .fail)) (fun _=>(fun _ _ _ _=> .fail)) (fun a len _ esz i s k=>atA a len esz i s k) (fun _=>(fun _ _ _ _=> .fail)) (fun _=>(fun _ _ _ _=> .fail)) (fun _ _ _ _ _=>(fun _ _ _ _=> .fail)) (fun _ _ _ _=> .fail) (fun _ _ _=>(fun _ _ _ _=> .fail)) (fun _ _ _ _=> .fail) (fun _ _=>(fun _ _ _ _=> .fail)) (fun _ _=>(fun _ _ _ _=> .fail)) (fun _ _=>()) () (fun _ _ _ _=>()) v esz i s k
def idxAK :Value→Nat→Nat→Value→SF→K→RX:=fun v len esz i s k=> @Value.rec (fun _=>Nat→Nat→Value→SF→K→RX) (fun _=>Unit) (fun _=>Unit) (fun _=>(fun _ _ _ _ _=> .fail)) (fun _ _=>(fun _ _ _ _ _=> .fail)) (fun _ _=>(fun _ _ _ _ _=> .fail)) (fun _ _ _=>(fun _ _ _ _ _=> .fail)) (fun _=>(fun _ _ _ _ _=> .fail)) (fun a len esz i s k=>atA a len esz i s k) (fun _ _ _=>(fun _ _ _ _ _=> .fail)) (fun _=>(fun _ _ _ _ _=> .fail)) (fun _=>(fun _ _ _ _ _=> .fail)) (fun _ _ _ _ _=>(fun _ _ _ _ _=> .fail)) (fun _ _ _ _ _=> .fail) (fun _ _ _=>(fun _ _ _ _ _=> .fail)) (fun _ _ _ _ _=> .fail) (fun _ _=>(fun _ _ _ _ _=> .fail)) (fun _ _=>(fun _ _ _ _ _=> .fail)) (fun _ _=>()) () (fun _ _ _ _=>()) v len esz i s k
def lenK :Value→SF→K→RX:=fun v s k=> @Value.rec (fun _=>SF→K→RX) (fun _=>Unit) (fun _=>Unit) (fun _=>(fun _ _=> .fail)) (fun _ _=>(fun _ _=> .fail)) (fun _ _=>(fun _ _=> .fail)) (fun _ _ _=>(fun _ _=> .fail)) (fun _=>(fun _ _=> .fail)) (fun _=>(fun _ _=> .fail)) (fun _ n _ s k=>k (.int .i64 (.ofNat n)) s) (fun _=>(fun _ _=> .fail)) (fun _=>(fun _ _=> .fail)) (fun _ _ _ _ _=>(fun _ _=> .fail)) (fun _ _=> .fail) (fun _ _ _=>(fun _ _=> .fail)) (fun _ _=> .fail) (fun _ _=>(fun _ _=> .fail)) (fun _ _=>(fun _ _=> .fail)) (fun _ _=>()) () (fun _ _ _ _=>()) v s k
def nthA (c:List Value) (i:Nat) (s:SF) (k:K):RX:=retK (nth c i) s k
def extK :Value→Nat→SF→K→RX:=fun v i s k=> @Value.rec (fun _=>Nat→SF→K→RX) (fun _=>Unit) (fun _=>Unit) (fun _=>(fun _ _ _=> .fail)) (fun _ _=>(fun _ _ _=> .fail)) (fun _ _=>(fun _ _ _=> .fail)) (fun _ _ _=>(fun _ _ _=> .fail)) (fun _=>(fun _ _ _=> .fail)) (fun _=>(fun _ _ _=> .fail)) (fun _ _ _=>(fun _ _ _=> .fail)) (fun _=>(fun _ _ _=> .fail)) (fun _=>(fun _ _ _=> .fail)) (fun _ _ _ _ _=>(fun _ _ _=> .fail)) (fun _ _ _=> .fail) (fun _ _ _=>(fun _ _ _=> .fail)) (fun _ _ _=> .fail) (fun _ _=>(fun _ _ _=> .fail)) (fun vs _ i s k=>nthA vs.toList i s k) (fun _ _=>()) () (fun _ _ _ _=>()) v i s k
def cellF :Option Nat→List Value→Nat→SF→K→RX:=fun n c o s k=> @Option.rec Nat (fun _=>List Value→Nat→SF→K→RX) (fun c o s k=>retK (nth c o) s k) (fun n c o s k=>k (.agg ⟨(c.drop o).take n⟩) s) n c o s k
def fieldK :Value→Nat→Option Nat→SF→K→RX:=fun v o n s k=> @Value.rec (fun _=>Nat→Option Nat→SF→K→RX) (fun _=>Unit) (fun _=>Unit) (fun _=>(fun _ _ _ _=> .fail)) (fun _ _=>(fun _ _ _ _=> .fail)) (fun _ _=>(fun _ _ _ _=> .fail)) (fun _ _ _=>(fun _ _ _ _=> .fail)) (fun _=>(fun _ _ _ _=> .fail)) (fun _=>(fun _ _ _ _=> .fail)) (fun _ _ _=>(fun _ _ _ _=> .fail)) (fun _=>(fun _ _ _ _=> .fail)) (fun _=>(fun _ _ _ _=> .fail)) (fun _ _ _ _ _=>(fun _ _ _ _=> .fail)) (fun _ _ _ _=> .fail) (fun _ _ _=>(fun _ _ _ _=> .fail)) (fun _ _ _ _=> .fail) (fun c _ o n s k=>cellF n c.toList o s k) (fun _ _=>(fun _ _ _ _=> .fail)) (fun _ _=>()) () (fun _ _ _ _=>()) v o n s k
def idxI :Int→Nat→Nat→Option Nat→List Value→SF→K→RX:=fun i len esz n c s k=> @Int.rec (fun _=>Nat→Nat→Option Nat→List Value→SF→K→RX) (fun i len esz n c s k=> @Bool.rec (fun _=>Nat→Nat→Option Nat→List Value→SF→K→RX) (fun _ _ _ _ _ _=> .fail) (fun i esz n c s k=>cellF n c (Nat.mul i esz) s k) (Nat.blt i len) i esz n c s k) (fun _ _ _ _ _ _ _=> .fail) i len esz n c s k
def idxV :Value→Nat→Nat→Option Nat→List Value→SF→K→RX:=fun v len esz n c s k=> @Value.rec (fun _=>Nat→Nat→Option Nat→List Value→SF→K→RX) (fun _=>Unit) (fun _=>Unit) (fun _=>(fun _ _ _ _ _ _=> .fail)) (fun _ i len esz n c s k=>idxI i len esz n c s k) (fun _ _=>(fun _ _ _ _ _ _=> .fail)) (fun _ _ _=>(fun _ _ _ _ _ _=> .fail)) (fun _=>(fun _ _ _ _ _ _=> .fail)) (fun _=>(fun _ _ _ _ _ _=> .fail)) (fun _ _ _=>(fun _ _ _ _ _ _=> .fail)) (fun _=>(fun _ _ _ _ _ _=> .fail)) (fun _=>(fun _ _ _ _ _ _=> .fail)) (fun _ _ _ _ _=>(fun _ _ _ _ _ _=> .fail)) (fun _ _ _ _ _ _=> .fail) (fun _ _ _=>(fun _ _ _ _ _ _=> .fail)) (fun _ _ _ _ _ _=> .fail) (fun _ _=>(fun _ _ _ _ _ _=> .fail)) (fun _ _=>(fun _ _ _ _ _ _=> .fail)) (fun _ _=>()) () (fun _ _ _ _=>()) v len esz n c s k
def indexK :Value→Nat→Nat→Option Nat→Value→SF→K→RX:=fun v len esz n i s k=> @Value.rec (fun _=>Nat→Nat→Option Nat→Value→SF→K→RX) (fun _=>Unit) (fun _=>Unit) (fun _=>(fun _ _ _ _ _ _=> .fail)) (fun _ _=>(fun _ _ _ _ _ _=> .fail)) (fun _ _=>(fun _ _ _ _ _ _=> .fail)) (fun _ _ _=>(fun _ _ _ _ _ _=> .fail)) (fun _=>(fun _ _ _ _ _ _=> .fail)) (fun _=>(fun _ _ _ _ _ _=> .fail)) (fun _ _ _=>(fun _ _ _ _ _ _=> .fail)) (fun _=>(fun _ _ _ _ _ _=> .fail)) (fun _=>(fun _ _ _ _ _ _=> .fail)) (fun _ _ _ _ _=>(fun _ _ _ _ _ _=> .fail)) (fun _ _ _ _ _ _=> .fail) (fun _ _ _=>(fun _ _ _ _ _ _=> .fail)) (fun _ _ _ _ _ _=> .fail) (fun c _ len esz n i s k=>idxV i len esz n c.toList s k) (fun _ _=>(fun _ _ _ _ _ _=> .fail)) (fun _ _=>()) () (fun _ _ _ _=>()) v len esz n i s k
def newK (o:FObj) (s:SF) (k:K):RX:=allocK o s (fun b s=>k (.pointer (some ⟨b,0,none⟩)) s)
abbrev Parts :=List (Nat×Nat×Operand)
def fill :Parts→E→List Value→Option (List Value):=fun ps e c=> @List.rec (Nat×Nat×Operand) (fun _=>E→List Value→Option (List Value)) (fun _ c=>some c) (fun p _ ih e c=> @Bool.rec (fun _=>List Value→Nat→(E→List Value→Option (List Value))→E→List Value→Option (List Value)) (fun _ _ _ _ _=>none) (fun vs o ih e c=> @Option.rec (List Value) (fun _=>(E→List Value→Option (List Value))→E→Option (List Value)) (fun _ _=>none) (fun c ih e=>ih e c) (splice o c vs) ih e) (Nat.beq (lenL (vcl (eeval p.2.2 e))) p.2.1) (vcl (eeval p.2.2 e)) p.1 ih e c) ps e c
def bslK :Option (List Value)→TypeId→Nat→SF→K→RX:=fun r e len s k=> @Option.rec (List Value) (fun _=>TypeId→Nat→SF→K→RX) (fun _ _ _ _=> .fail) (fun c e len s k=>allocK (.cells .rw e c) s (fun b s=>k (.slice (some ⟨b,0,none⟩) len len) s)) r e len s k
def retC :RV→K→RX:=fun r k=> @RV.rec (fun _=>K→RX) (fun _=> .fail) (fun v s k=>k v s) r k
def callF :Fn→CF→List Value→List Value→List Value→SF→K→RX:=fun f C x args y s k=> @Fn.rec (fun _=>CF→List Value→List Value→List Value→SF→K→RX) (fun g C x args y s k=>retC (C (.func g) (appL x (appL args y)) s) k) (fun _=>(fun _ _ _ _ _ _=> .fail)) (fun _ _=>(fun _ _ _ _ _ _=> .fail)) (fun _ _ _ _=>(fun _ _ _ _ _ _=> .fail)) (fun l C x args y s k=> @List.rec Value (fun _=>CF→Nat→List Value→SF→K→RX) (fun C l args s k=>retC (C (.yield l) args s) k) (fun _ _ _ _ _ _ _ _=> .fail) x C l args s k) f C x args y s k
def callK :Value→CF→List Value→SF→K→RX:=fun v C args s k=> @Value.rec (fun _=>CF→List Value→SF→K→RX) (fun _=>Unit) (fun _=>Unit) (fun _=>(fun _ _ _ _=> .fail)) (fun _ _=>(fun _ _ _ _=> .fail)) (fun _ _=>(fun _ _ _ _=> .fail)) (fun _ _ _=>(fun _ _ _ _=> .fail)) (fun _=>(fun _ _ _ _=> .fail)) (fun _=>(fun _ _ _ _=> .fail)) (fun _ _ _=>(fun _ _ _ _=> .fail)) (fun _=>(fun _ _ _ _=> .fail)) (fun _=>(fun _ _ _ _=> .fail)) (fun f x y _ _ C args s k=>callF f C x.toList args y.toList s k) (fun _ _ _ _=> .fail) (fun _ _ _=>(fun _ _ _ _=> .fail)) (fun _ _ _ _=> .fail) (fun _ _=>(fun _ _ _ _=> .fail)) (fun _ _=>(fun _ _ _ _=> .fail)) (fun _ _=>()) () (fun _ _ _ _=>()) v C args s k
def mapF (s:SF):Value→Option (List MapEntry×Nat)
 | .map none=>some ([],0)
 | .map (some r)=>match sget r s with
  |some (.map es c)=>some (es,c)
  |_=>none
 |_=>none
def lookK (ks:Bool×List CK) (z:List Value) (g ok:Bool) (m key:Value) (s:SF) (k:K):RX:=match mapF s m with
 |some (es,_)=>if(keyEq ks key key).isNone then .fail else match findE ks key es with
  |some (some e)=>k (if ok then .tuple #[e.val, .bool true] else e.val) s
  |some none=>k (if ok then .tuple #[zeroOf z g, .bool false] else zeroOf z g) s
  |none=> .fail
 |none=> .fail
def mupdK (ks:Bool×List CK) (m key v:Value) (s:SF) (k:K):RX:=match m with
 | .map (some r)=>match sget r s with
  |some (.map es c)=>if(keyEq ks key key).isNone then .fail else match findE ks key es with
   |some (some _)=>k undefE (sset r (.map (updE ks key v es) c) s)
   |some none=>k undefE (sset r (.map (es++ [{key:=key,val:=v,born:=c}]) (c+1)) s)
   |none=> .fail
  |_=> .fail
 |_=> .fail
def mentK (ks:Bool×List CK) (z:List Value) (g:Bool) (m key:Value) (s:SF) (k:K):RX:=match m with
 | .map (some r)=>match sget r s with
  |some (.map es c)=>if(keyEq ks key key).isNone then .fail else match findE ks key es with
   |some (some e)=>k (.tuple #[e.val, .int .i64 e.born]) s
   |some none=>k (.tuple #[zeroOf z g, .int .i64 c]) (sset r (.map (es++ [{key:=key,val:=zeroOf z g,born:=c}]) (c+1)) s)
   |none=> .fail
  |_=> .fail
 |_=> .fail
def mestK (m t v:Value) (s:SF) (k:K):RX:=match m,t with
 | .map (some r), .int _ b=>match sget r s with
  |some (.map es c)=>match es.findIdx? (fun e=>(e.born:Int)==b) with
   |some i=>k undefE (sset r (.map (es.modify i fun e=>{e with val:=v}) c) s)
   |none=> .fail
  |_=> .fail
 |_,_=> .fail
def lenMK (m:Value) (s:SF) (k:K):RX:=match mapF s m with
 |some (es,_)=>k (.int .i64 es.length) s
 |none=> .fail
def elemF (s:SF):Option Addr→Option TypeId
 |some p=>match sget p.block s with
  |some (.cells _ e _)=>some e
  |_=>none
 |none=>none
def slcSK (e:TypeId) (esz:Nat) (x:Value) (lo hi mx:Option Value) (s:SF) (k:K):RX:=match x with
 | .slice p len cap=>if cap=INF∧elemF s p≠some e then .fail else retK (sliceE esz p len cap lo hi mx) s k
 |_=> .fail
def srcF (s:SF) (esz n:Nat):Option Addr→Option (List Value)
 |none=>if n=0 then some [] else none
 |some b=>match sget b.block s with
  |some (.cells _ _ c)=>if b.off+n*esz≤c.length then some ((c.drop b.off).take (n*esz)) else none
  |_=>none
def appK (elem:TypeId) (esz bytes:Nat) (v x:Value) (s:SF) (k:K):RX:=match v,x with
 | .slice base sLen sCap, .slice xb n _=>match srcF s esz n xb with
  |none=> .fail
  |some new=>match base with
   |none=>if sLen=0∧sCap=0 then
     if n=0 then k v s else
     if n≤2^31∧bytes≤2^16 then allocK (.cells .grow elem new) s (fun b s=>k (.slice (some ⟨b,0,none⟩) n INF) s) else .fail
    else .fail
   |some a=>match sget a.block s with
    |some (.cells st e c)=>
     if a.off+sLen*esz≤c.length then
      if n=0 then k v s else
      if sCap=INF then
       if e=elem∧st= .grow then
        if a.off+(sLen+n)*esz≤c.length then storeA (some ⟨a.block,a.off+sLen*esz,none⟩) new s (fun s=>k (.slice base (sLen+n) INF) s)
        else if sLen+n≤2^31∧bytes≤2^16∧new.all oneC then
         allocK (.cells .grow elem ((c.drop a.off).take (sLen*esz)++new)) (sset a.block .dead s) (fun b s=>k (.slice (some ⟨b,0,none⟩) (sLen+n) INF) s)
        else .fail
       else .fail
      else if sLen+n≤sCap then storeA (some ⟨a.block,a.off+sLen*esz,none⟩) new s (fun s=>k (.slice base (sLen+n) sCap) s)
      else if sLen+n≤2^31∧bytes≤2^16 then
       allocK (.cells .grow elem ((c.drop a.off).take (sLen*esz)++new)) s (fun b s=>k (.slice (some ⟨b,0,none⟩) (sLen+n) INF) s)
      else .fail
     else .fail
    |_=> .fail
 |_,_=> .fail
def copyK (esz:Nat) (d t:Value) (s:SF) (k:K):RX:=match d,t with
 | .slice db dl _, .slice sb sl _=>match srcF s esz (min sl dl) sb with
  |some new=>match db with
   |none=>if min sl dl=0 then k (.int .i64 (min sl dl:Nat)) s else .fail
   |some p=>if min sl dl=0 then k (.int .i64 (min sl dl:Nat)) s else storeA (some p) new s (fun s=>k (.int .i64 (min sl dl:Nat)) s)
  |none=> .fail
 |_,_=> .fail
def mksK (e:TypeId) (esz bytes:Nat) (z:List Value) (l c:Value) (s:SF) (k:K):RX:=match l,c with
 | .int _ n, .int _ m=>if n=m∧0≤n∧n<INF∧IntKind.i64.wrap n=n∧(bytes:Int)*n≤2^48∧(0<z.length∨n.toNat*esz=0) then
   allocK (.cells .rw e ((List.range (n.toNat*esz)).map fun i=>z.getD (i%z.length) undefE)) s (fun b s=>k (.slice (some ⟨b,0,none⟩) n.toNat n.toNat) s)
  else .fail
 |_,_=> .fail
def rngK (v:Value) (s:SF) (k:K):RX:=match v with
 | .string t=>newK (.iter t 0) s k
 |_=> .fail
def nxtK (v:Value) (s:SF) (k:K):RX:=match v with
 | .pointer (some ⟨r,0,none⟩)=>match sget r s with
  |some (.iter t pos)=>if pos<t.size then k (.tuple #[.bool true, .int .i64 pos, .int .i32 (Utf8.decode t pos).1]) (sset r (.iter t (pos+(Utf8.decode t pos).2)) s)
    else k (.tuple #[.bool false]) s
  |_=> .fail
 |_=> .fail
def cs (v:Value):Operand:= .const v
def oev (x:Option Operand) (e:E):Option Value:=x.map (eeval · e)
def pureK (op:I) (s:SF) (k:K):RX:=retP (evI op .leaf Store.empty) s k
structure XC where
 c:CF
 b:Nat
 h:List SF
 ls:List LookF
 v:Value
structure Step where
 run:XC→E→SF→RX
abbrev NX :=XC→E→Value→SF→RX
structure Opd where
 g:E→Value
def opnd (x:Operand):Opd:=match x with
 | .tmp t=> @SelE.rec (fun _=>Opd) (fun g _=> ⟨g⟩) (selE t)
 | .const v=> ⟨fun _=>v⟩
 | .global g=> ⟨fun _=> .pointer (some ⟨g,0,none⟩)⟩
 | .func f=> ⟨fun _=> .func (.func f) #[] #[]⟩
abbrev G :=E→Value
def w1 (x:Operand) (f:G→Step):Step:= @Opd.rec (fun _=>Step) f (opnd x)
def w2 (x y:Operand) (f:G→G→Step):Step:= @Opd.rec (fun _=>Step) (fun g=> @Opd.rec (fun _=>Step) (f g) (opnd y)) (opnd x)
structure IF where
 f:Int→Int→SF→K→RX
def intF (op:BinOp):IF:=match op with
 | .add=> ⟨fun a b s k=>fitK (iadd a b) s k⟩
 | .sub=> ⟨fun a b s k=>fitK (isub a b) s k⟩
 | .mul=> ⟨fun a b s k=>fitK (imul a b) s k⟩
 | .quo=> ⟨fun a b s k=>fitO (iquo a b) .quo a b s k⟩
 | .rem=> ⟨fun a b s k=>fitO (irem a b) .rem a b s k⟩
 | .and=> ⟨slowK .and⟩
 | .or=> ⟨slowK .or⟩
 | .xor=> ⟨slowK .xor⟩
 | .shl=> ⟨slowK .shl⟩
 | .shr=> ⟨slowK .shr⟩
 | .andNot=> ⟨slowK .andNot⟩
 | .eql=> ⟨fun a b s k=>k (.bool (ieq a b)) s⟩
 | .neq=> ⟨fun a b s k=>k (.bool (not' (ieq a b))) s⟩
 | .lss=> ⟨fun a b s k=>k (.bool (ilt a b)) s⟩
 | .leq=> ⟨fun a b s k=>k (.bool (ile a b)) s⟩
 | .gtr=> ⟨fun a b s k=>k (.bool (ilt b a)) s⟩
 | .geq=> ⟨fun a b s k=>k (.bool (ile b a)) s⟩
def kindK :IntKind→Int→IntKind→Int→(Int→Int→SF→K→RX)→BinOp→SF→K→RX:=fun kk a k' b F op s k=> @IntKind.rec (fun _=>IntKind→Int→IntKind→Int→(Int→Int→SF→K→RX)→BinOp→SF→K→RX) (fun kk a k' b _ op s k=>retK (binV op (.int kk a) (.int k' b)) s k) (fun kk a k' b _ op s k=>retK (binV op (.int kk a) (.int k' b)) s k) (fun kk a k' b _ op s k=>retK (binV op (.int kk a) (.int k' b)) s k) (fun kk a k' b F op s k=> @IntKind.rec (fun _=>IntKind→Int→IntKind→Int→(Int→Int→SF→K→RX)→BinOp→SF→K→RX) (fun kk a k' b _ op s k=>retK (binV op (.int kk a) (.int k' b)) s k) (fun kk a k' b _ op s k=>retK (binV op (.int kk a) (.int k' b)) s k) (fun kk a k' b _ op s k=>retK (binV op (.int kk a) (.int k' b)) s k) (fun _ a _ b F _ s k=>F a b s k) (fun kk a k' b _ op s k=>retK (binV op (.int kk a) (.int k' b)) s k) (fun kk a k' b _ op s k=>retK (binV op (.int kk a) (.int k' b)) s k) (fun kk a k' b _ op s k=>retK (binV op (.int kk a) (.int k' b)) s k) (fun kk a k' b _ op s k=>retK (binV op (.int kk a) (.int k' b)) s k) k' kk a k' b F op s k) (fun kk a k' b _ op s k=>retK (binV op (.int kk a) (.int k' b)) s k) (fun kk a k' b _ op s k=>retK (binV op (.int kk a) (.int k' b)) s k) (fun kk a k' b _ op s k=>retK (binV op (.int kk a) (.int k' b)) s k) (fun kk a k' b _ op s k=>retK (binV op (.int kk a) (.int k' b)) s k) kk kk a k' b F op s k
def bin2K :Value→IntKind→Int→(Int→Int→SF→K→RX)→BinOp→SF→K→RX:=fun y kk a F op s k=> @Value.rec (fun _=>Value→IntKind→Int→(Int→Int→SF→K→RX)→BinOp→SF→K→RX) (fun _=>Unit) (fun _=>Unit) (fun _=>(fun y kk a _ op s k=>retK (binV op (.int kk a) y) s k)) (fun j b _ kk a F op s k=>kindK kk a j b F op s k) (fun _ _=>(fun y kk a _ op s k=>retK (binV op (.int kk a) y) s k)) (fun _ _ _=>(fun y kk a _ op s k=>retK (binV op (.int kk a) y) s k)) (fun _=>(fun y kk a _ op s k=>retK (binV op (.int kk a) y) s k)) (fun _=>(fun y kk a _ op s k=>retK (binV op (.int kk a) y) s k)) (fun _ _ _=>(fun y kk a _ op s k=>retK (binV op (.int kk a) y) s k)) (fun _=>(fun y kk a _ op s k=>retK (binV op (.int kk a) y) s k)) (fun _=>(fun y kk a _ op s k=>retK (binV op (.int kk a) y) s k)) (fun _ _ _ _ _=>(fun y kk a _ op s k=>retK (binV op (.int kk a) y) s k)) (fun y kk a _ op s k=>retK (binV op (.int kk a) y) s k) (fun _ _ _=>(fun y kk a _ op s k=>retK (binV op (.int kk a) y) s k)) (fun y kk a _ op s k=>retK (binV op (.int kk a) y) s k) (fun _ _=>(fun y kk a _ op s k=>retK (binV op (.int kk a) y) s k)) (fun _ _=>(fun y kk a _ op s k=>retK (binV op (.int kk a) y) s k)) (fun _ _=>()) () (fun _ _ _ _=>()) y y kk a F op s k
def binK :Value→Value→(Int→Int→SF→K→RX)→BinOp→SF→K→RX:=fun x y F op s k=> @Value.rec (fun _=>Value→Value→(Int→Int→SF→K→RX)→BinOp→SF→K→RX) (fun _=>Unit) (fun _=>Unit) (fun _=>(fun x y _ op s k=>retK (binV op x y) s k)) (fun kk a _ y F op s k=>bin2K y kk a F op s k) (fun _ _=>(fun x y _ op s k=>retK (binV op x y) s k)) (fun _ _ _=>(fun x y _ op s k=>retK (binV op x y) s k)) (fun _=>(fun x y _ op s k=>retK (binV op x y) s k)) (fun _=>(fun x y _ op s k=>retK (binV op x y) s k)) (fun _ _ _=>(fun x y _ op s k=>retK (binV op x y) s k)) (fun _=>(fun x y _ op s k=>retK (binV op x y) s k)) (fun _=>(fun x y _ op s k=>retK (binV op x y) s k)) (fun _ _ _ _ _=>(fun x y _ op s k=>retK (binV op x y) s k)) (fun x y _ op s k=>retK (binV op x y) s k) (fun _ _ _=>(fun x y _ op s k=>retK (binV op x y) s k)) (fun x y _ op s k=>retK (binV op x y) s k) (fun _ _=>(fun x y _ op s k=>retK (binV op x y) s k)) (fun _ _=>(fun x y _ op s k=>retK (binV op x y) s k)) (fun _ _=>()) () (fun _ _ _ _=>()) x x y F op s k
structure BF where
 f:Value→Value→SF→K→RX
def binF (op:BinOp):BF:= @IF.rec (fun _=>BF) (fun f=> ⟨fun x y s k=>binK x y f op s k⟩) (intF op)
def pick2 :Value→G→G→E→SF→K→RX:=fun v x y e s k=> @Value.rec (fun _=>G→G→E→SF→K→RX) (fun _=>Unit) (fun _=>Unit) (fun b x y e s k=> @Bool.rec (fun _=>G→G→E→SF→K→RX) (fun x y e s k=>k (y e) s) (fun x y e s k=>k (x e) s) b x y e s k) (fun _ _=>(fun _ _ _ _ _=> .fail)) (fun _ _=>(fun _ _ _ _ _=> .fail)) (fun _ _ _=>(fun _ _ _ _ _=> .fail)) (fun _=>(fun _ _ _ _ _=> .fail)) (fun _=>(fun _ _ _ _ _=> .fail)) (fun _ _ _=>(fun _ _ _ _ _=> .fail)) (fun _=>(fun _ _ _ _ _=> .fail)) (fun _=>(fun _ _ _ _ _=> .fail)) (fun _ _ _ _ _=>(fun _ _ _ _ _=> .fail)) (fun _ _ _ _ _=> .fail) (fun _ _ _=>(fun _ _ _ _ _=> .fail)) (fun _ _ _ _ _=> .fail) (fun _ _=>(fun _ _ _ _ _=> .fail)) (fun _ _=>(fun _ _ _ _ _=> .fail)) (fun _ _=>()) () (fun _ _ _ _=>()) v x y e s k
def nilpA :Option Addr→SF→K→RX:=fun a s k=> @Option.rec Addr (fun _=>SF→K→RX) (fun _ _=> .fail) (fun p s k=>k (.pointer (some p)) s) a s k
def nilpK :Value→SF→K→RX:=fun v s k=> @Value.rec (fun _=>SF→K→RX) (fun _=>Unit) (fun _=>Unit) (fun _=>(fun _ _=> .fail)) (fun _ _=>(fun _ _=> .fail)) (fun _ _=>(fun _ _=> .fail)) (fun _ _ _=>(fun _ _=> .fail)) (fun _=>(fun _ _=> .fail)) (fun a s k=>nilpA a s k) (fun _ _ _=>(fun _ _=> .fail)) (fun _=>(fun _ _=> .fail)) (fun _=>(fun _ _=> .fail)) (fun _ _ _ _ _=>(fun _ _=> .fail)) (fun _ _=> .fail) (fun _ _ _=>(fun _ _=> .fail)) (fun _ _=> .fail) (fun _ _=>(fun _ _=> .fail)) (fun _ _=>(fun _ _=> .fail)) (fun _ _=>()) () (fun _ _ _ _=>()) v s k
def notK :Value→SF→K→RX:=fun v s k=> @Value.rec (fun _=>SF→K→RX) (fun _=>Unit) (fun _=>Unit) (fun b s k=>k (.bool (not' b)) s) (fun _ _=>(fun _ _=> .fail)) (fun _ _=>(fun _ _=> .fail)) (fun _ _ _=>(fun _ _=> .fail)) (fun _=>(fun _ _=> .fail)) (fun _=>(fun _ _=> .fail)) (fun _ _ _=>(fun _ _=> .fail)) (fun _=>(fun _ _=> .fail)) (fun _=>(fun _ _=> .fail)) (fun _ _ _ _ _=>(fun _ _=> .fail)) (fun _ _=> .fail) (fun _ _ _=>(fun _ _=> .fail)) (fun _ _=> .fail) (fun _ _=>(fun _ _=> .fail)) (fun _ _=>(fun _ _=> .fail)) (fun _ _=>()) () (fun _ _ _ _=>()) v s k
def load1O :Option FObj→Nat→SF→K→RX:=fun o off s k=> @Option.rec FObj (fun _=>Nat→SF→K→RX) (fun _ _ _=> .fail) (fun o off s k=> @FObj.rec (fun _=>Nat→SF→K→RX) (fun _ _ c off s k=>retK (nth c off) s k) (fun _ _ _=> .fail) (fun _ _=>(fun _ _ _=> .fail)) (fun _ _=>(fun _ _ _=> .fail)) (fun _ _ _ _ _ _=>(fun _ _ _=> .fail)) o off s k) o off s k
def load1A :Option Addr→SF→K→RX:=fun a s k=> @Option.rec Addr (fun _=>SF→K→RX) (fun _ _=> .fail) (fun p s k=> @Addr.rec (fun _=>SF→K→RX) (fun b off _ s k=>load1O (sget b s) off s k) p s k) a s k
def load1K :Value→SF→K→RX:=fun v s k=> @Value.rec (fun _=>SF→K→RX) (fun _=>Unit) (fun _=>Unit) (fun _=>(fun _ _=> .fail)) (fun _ _=>(fun _ _=> .fail)) (fun _ _=>(fun _ _=> .fail)) (fun _ _ _=>(fun _ _=> .fail)) (fun _=>(fun _ _=> .fail)) (fun a s k=>load1A a s k) (fun _ _ _=>(fun _ _=> .fail)) (fun _=>(fun _ _=> .fail)) (fun _=>(fun _ _=> .fail)) (fun _ _ _ _ _=>(fun _ _=> .fail)) (fun _ _=> .fail) (fun _ _ _=>(fun _ _=> .fail)) (fun _ _=> .fail) (fun _ _=>(fun _ _=> .fail)) (fun _ _=>(fun _ _=> .fail)) (fun _ _=>()) () (fun _ _ _ _=>()) v s k
def stepOf (dr:Bool) (op:I) (nx:NX):Step:=match op with
 | .mov x=>w1 x fun g=> ⟨fun X e s=>nx X e (g e) s⟩
 | .pick c x y=>w1 c fun c=>w2 x y fun g h=> ⟨fun X e s=>pick2 (c e) g h e s (nx X e)⟩
 | .bin op x y=>w2 x y fun g h=> @BF.rec (fun _=>Step) (fun f=> ⟨fun X e s=>f (g e) (h e) s (nx X e)⟩) (binF op)
 | .beq n x y=>w2 x y fun g h=> ⟨fun X e s=>pureK (.beq n (cs (g e)) (cs (h e))) s (nx X e)⟩
 | .peq ks n x y=>w2 x y fun g h=> ⟨fun X e s=>pureK (.peq ks n (cs (g e)) (cs (h e))) s (nx X e)⟩
 | .nileq kk n x=>w1 x fun g=> ⟨fun X e s=>pureK (.nileq kk n (cs (g e))) s (nx X e)⟩
 | .not x=>w1 x fun g=> ⟨fun X e s=>notK (g e) s (nx X e)⟩
 | .neg x=>w1 x fun g=> ⟨fun X e s=>pureK (.neg (cs (g e))) s (nx X e)⟩
 | .conv kk x=>w1 x fun g=> ⟨fun X e s=>pureK (.conv kk (cs (g e))) s (nx X e)⟩
 | .alloc t z=> ⟨fun X e s=>newK (.cells .rw t z) s (nx X e)⟩
 | .box t x=>w1 x fun g=> ⟨fun X e s=>newK (.cells .rw t (vcl (g e))) s (nx X e)⟩
 | .build z ps=> ⟨fun X e s=>aggK (fill ps e z) s (nx X e)⟩
 | .bslice t n len z ps=> ⟨fun X e s=>bslK (fill ps e z) t len s (nx X e)⟩
 | .load none x=>w1 x fun g=> ⟨fun X e s=>load1K (g e) s (nx X e)⟩
 | .load (some n) x=>w1 x fun g=> ⟨fun X e s=>loadK (g e) (some n) s (nx X e)⟩
 | .store n x v=>w2 x v fun g h=> ⟨fun X e s=>storeK (g e) n (vcl (h e)) s (nx X e)⟩
 | .nilc x=>w1 x fun g=> ⟨fun X e s=>nilcK (g e) s (nx X e)⟩
 | .addOff x 0=>w1 x fun g=> ⟨fun X e s=>nilpK (g e) s (nx X e)⟩
 | .addOff x (o+1)=>w1 x fun g=> ⟨fun X e s=>addK (g e) (o+1) s (nx X e)⟩
 | .field o n x=>w1 x fun g=> ⟨fun X e s=>fieldK (g e) o n s (nx X e)⟩
 | .idxS esz x i=>w2 x i fun g h=> ⟨fun X e s=>idxSK (g e) esz (h e) s (nx X e)⟩
 | .idxA len esz x i=>w2 x i fun g h=> ⟨fun X e s=>idxAK (g e) len esz (h e) s (nx X e)⟩
 | .index len esz n x i=>w2 x i fun g h=> ⟨fun X e s=>indexK (g e) len esz n (h e) s (nx X e)⟩
 | .indexStr x i=>w2 x i fun g h=> ⟨fun X e s=>pureK (.indexStr (cs (g e)) (cs (h e))) s (nx X e)⟩
 | .slcS t esz x lo hi m=>w1 x fun g=> ⟨fun X e s=>slcSK t esz (g e) (oev lo e) (oev hi e) (oev m e) s (nx X e)⟩
 | .slcA len esz x lo hi m=>w1 x fun g=> ⟨fun X e s=>pureK (.slcA len esz (cs (g e)) ((oev lo e).map cs) ((oev hi e).map cs) ((oev m e).map cs)) s (nx X e)⟩
 | .slcStr x lo hi=>w1 x fun g=> ⟨fun X e s=>pureK (.slcStr (cs (g e)) ((oev lo e).map cs) ((oev hi e).map cs)) s (nx X e)⟩
 | .ext x i=>w1 x fun g=> ⟨fun X e s=>extK (g e) i s (nx X e)⟩
 | .mkf f fs cs=> ⟨fun X e s=>nx X e (.func (.func f) ⟨evalL fs e⟩ ⟨evalL cs e⟩) s⟩
 | .mks t n b z l c=>w2 l c fun g h=> ⟨fun X e s=>mksK t n b z (g e) (h e) s (nx X e)⟩
 | .mkm  => ⟨fun X e s=>allocK (.map [] 0) s (fun b s=>nx X e (.map (some b)) s)⟩
 | .look ks z gg ok m key=>w2 m key fun g h=> ⟨fun X e s=>lookK ks z gg ok (g e) (h e) s (nx X e)⟩
 | .mupd ks m key v=>w2 m key fun g h=>w1 v fun j=> ⟨fun X e s=>mupdK ks (g e) (h e) (j e) s (nx X e)⟩
 | .ment ks z gg m key=>w2 m key fun g h=> ⟨fun X e s=>mentK ks z gg (g e) (h e) s (nx X e)⟩
 | .mest m t v=>w2 m t fun g h=>w1 v fun j=> ⟨fun X e s=>mestK (g e) (h e) (j e) s (nx X e)⟩
 | .lenS x=>w1 x fun g=> ⟨fun X e s=>lenK (g e) s (nx X e)⟩
 | .lenStr x=>w1 x fun g=> ⟨fun X e s=>pureK (.lenStr (cs (g e))) s (nx X e)⟩
 | .lenM x=>w1 x fun g=> ⟨fun X e s=>lenMK (g e) s (nx X e)⟩
 | .const v=> ⟨fun X e s=>nx X e v s⟩
 | .mx l=> ⟨fun X e s=>pureK (.mx ((evalL l e).map cs)) s (nx X e)⟩
 | .mn l=> ⟨fun X e s=>pureK (.mn ((evalL l e).map cs)) s (nx X e)⟩
 | .app t n b x y=>w2 x y fun g h=> ⟨fun X e s=>appK t n b (g e) (h e) s (nx X e)⟩
 | .copy n d x=>w2 d x fun g h=> ⟨fun X e s=>copyK n (g e) (h e) s (nx X e)⟩
 | .mki t x=>w1 x fun g=> ⟨fun X e s=>nx X e (.iface t (g e)) s⟩
 | .strOf x=>w1 x fun g=> ⟨fun X e s=>pureK (.strOf (cs (g e))) s (nx X e)⟩
 | .rngStr x=>w1 x fun g=> ⟨fun X e s=>rngK (g e) s (nx X e)⟩
 | .nxtStr x=>w1 x fun g=> ⟨fun X e s=>nxtK (g e) s (nx X e)⟩
 | .call f args=>w1 f fun g=> ⟨fun X e s=>callK (g e) X.c (evalL args e) s (nx X e)⟩
 | .pre m=>bif dr then⟨fun X e s=>nx X e (.pointer (some ⟨Nat.add X.b m,0,none⟩)) s⟩ else⟨fun _ _ _=> .fail⟩
 | .stop  => ⟨fun X e s=> .fail⟩
def eqB :Bool→Bool→Bool:=fun a b=> @Bool.rec (fun _=>Bool→Bool) not' (fun b=>b) a b
def wantQ :Value→Bool→Bool:=fun v w=> @Value.rec (fun _=>Bool→Bool) (fun _=>Unit) (fun _=>Unit) (fun b w=>eqB b w) (fun _ _=>(fun _=>false)) (fun _ _=>(fun _=>false)) (fun _ _ _=>(fun _=>false)) (fun _=>(fun _=>false)) (fun _=>(fun _=>false)) (fun _ _ _=>(fun _=>false)) (fun _=>(fun _=>false)) (fun _=>(fun _=>false)) (fun _ _ _ _ _=>(fun _=>false)) (fun _=>false) (fun _ _ _=>(fun _=>false)) (fun _=>false) (fun _ _=>(fun _=>false)) (fun _ _=>(fun _=>false)) (fun _ _=>()) () (fun _ _ _ _=>()) v w
def noC :CF:=fun _ _ _=> .fail
def isN :RX→Bool:=fun r=> @RX.rec (fun _=>Bool) false (fun _ _=>true) (fun _ _ _=>false) (fun _ _=>false) r
def nxS :NX:=fun X e v s=>bif sameV 10 v X.v then .norm e s else .fail
def stabF (h:List SF) (l:LookF):Bool:=(List.range (l.hi+1 - l.lo)).all fun i=>match h[l.lo+i]? with
 |some s=>isN ((stepOf false l.op nxS).run ⟨noC,0,[],[],l.v⟩ l.e s)
 |none=>false
def lookL (w:Option (Nat×Nat)) (op:I) (e:E) (v:Value) (ls:List LookF):List LookF:=match w with
 |some (lo,hi)=>bif op.looks then⟨op,e,v,lo,hi⟩::ls else ls
 |none=>ls
structure NXw where
 f:NX
structure SKw where
 f:XC→E→SF→RX
def nxOf (trk:Bool) (o:EOp) (ih:Step):NXw:=match o.dst with
 |some d=> @SelE.rec (fun _=>NXw) (fun _ p=>bif trk then(bif o.op.loud then⟨fun X e v s=>p v e s (fun e' s=>ih.run ⟨X.c,X.b,X.h++ [s],lookL o.win o.op e v X.ls,undefE⟩ e' s)⟩ else⟨fun X e v s=>p v e s (fun e' s=>ih.run ⟨X.c,X.b,X.h,lookL o.win o.op e v X.ls,undefE⟩ e' s)⟩)
   else⟨fun X e v s=>p v e s (ih.run X)⟩) (selE d)
 |none=>bif trk then(bif o.op.loud then⟨fun X e v s=>ih.run ⟨X.c,X.b,X.h++ [s],lookL o.win o.op e v X.ls,undefE⟩ e s⟩ else⟨fun X e v s=>ih.run ⟨X.c,X.b,X.h,lookL o.win o.op e v X.ls,undefE⟩ e s⟩)
   else⟨fun X e v s=>ih.run X e s⟩
def skOf (trk:Bool) (o:EOp) (ih:Step):SKw:=match o.dst with
 |some d=> @SelE.rec (fun _=>SKw) (fun _ p=>bif trk&&o.op.loud then⟨fun X e s=>p undefE e s (fun e' s=>ih.run ⟨X.c,X.b,X.h++ [s],X.ls,undefE⟩ e' s)⟩ else⟨fun X e s=>p undefE e s (ih.run X)⟩) (selE d)
 |none=>bif trk&&o.op.loud then⟨fun X e s=>ih.run ⟨X.c,X.b,X.h++ [s],X.ls,undefE⟩ e s⟩ else⟨fun X e s=>ih.run X e s⟩
def guK :Bool→(XC→E→SF→RX)→(XC→E→SF→RX)→XC→E→SF→RX:=fun b r k X e s=> @Bool.rec (fun _=>(XC→E→SF→RX)→(XC→E→SF→RX)→XC→E→SF→RX) (fun _ k X e s=>k X e s) (fun r _ X e s=>r X e s) b r k X e s
def stepC (dr trk:Bool) (o:EOp) (ih:Step):Step:=match o.guard with
 |none=> @NXw.rec (fun _=>Step) (fun nx=>stepOf dr o.op nx) (nxOf trk o ih)
 |some (t,w)=> @SelE.rec (fun _=>Step) (fun g _=> @Step.rec (fun _=>Step) (fun r=> @SKw.rec (fun _=>Step) (fun k=> ⟨fun X e s=>guK (wantQ (g e) w) r k X e s⟩) (skOf trk o ih)) (@NXw.rec (fun _=>Step) (fun nx=>stepOf dr o.op nx) (nxOf trk o ih))) (selE t)
def comp (dr trk:Bool) (ops:List EOp):Step:= @List.rec EOp (fun _=>Step) (bif trk then⟨fun X e s=>bif X.ls.all (stabF X.h) then .norm e s else .fail⟩ else⟨fun X e s=> .norm e s⟩) (fun o _ ih=>stepC dr trk o ih) ops
def allocL :List (TypeId×List Value)→SF→(SF→RX)→RX:=fun l s k=> @List.rec (TypeId×List Value) (fun _=>SF→(SF→RX)→RX) (fun s k=>k s) (fun p _ ih s k=>allocK (.cells .rw p.1 p.2) s (fun _ s=>ih s k)) l s k
structure Code where
 run:CF→Nat→E→SF→RX
def hasWin (ops:List EOp):Bool:=ops.any fun o=>o.win.isSome
def regC (ops:List EOp):Code:= @Step.rec (fun _=>Code) (fun r=> ⟨fun C n e s=>r ⟨C,0,[],[],undefE⟩ e s⟩) (comp false false ops)
def regDC (pre:List (TypeId×List Value)) (ops:List EOp):Code:= @Step.rec (fun _=>Code) (fun r=>bif hasWin ops then⟨fun C n e s=>allocL pre s fun s'=>r ⟨C,s.size,[s'],[],undefE⟩ e s'⟩ else⟨fun C n e s=>allocL pre s fun s'=>r ⟨C,s.size,[],[],undefE⟩ e s'⟩) (comp true (hasWin ops) ops)
def seqK :RX→Code→CF→Nat→RX:=fun r iy C n=> @RX.rec (fun _=>Code→CF→Nat→RX) (fun _ _ _=> .fail) (fun e s iy C n=>iy.run C n e s) (fun i e s _ _ _=> .exit i e s) (fun e s _ _ _=> .ret e s) r iy C n
def condK :Value→Code→Code→CF→Nat→E→SF→RX:=fun v ix iy C n e s=> @Value.rec (fun _=>Code→Code→CF→Nat→E→SF→RX) (fun _=>Unit) (fun _=>Unit) (fun b ix iy C n e s=> @Bool.rec (fun _=>Code→Code→CF→Nat→E→SF→RX) (fun _ iy C n e s=>iy.run C n e s) (fun ix _ C n e s=>ix.run C n e s) b ix iy C n e s) (fun _ _=>(fun _ _ _ _ _ _=> .fail)) (fun _ _=>(fun _ _ _ _ _ _=> .fail)) (fun _ _ _=>(fun _ _ _ _ _ _=> .fail)) (fun _=>(fun _ _ _ _ _ _=> .fail)) (fun _=>(fun _ _ _ _ _ _=> .fail)) (fun _ _ _=>(fun _ _ _ _ _ _=> .fail)) (fun _=>(fun _ _ _ _ _ _=> .fail)) (fun _=>(fun _ _ _ _ _ _=> .fail)) (fun _ _ _ _ _=>(fun _ _ _ _ _ _=> .fail)) (fun _ _ _ _ _ _=> .fail) (fun _ _ _=>(fun _ _ _ _ _ _=> .fail)) (fun _ _ _ _ _ _=> .fail) (fun _ _=>(fun _ _ _ _ _ _=> .fail)) (fun _ _=>(fun _ _ _ _ _ _=> .fail)) (fun _ _=>()) () (fun _ _ _ _=>()) v ix iy C n e s
def blockK :RX→Nat→RX:=fun r id=> @RX.rec (fun _=>Nat→RX) (fun _=> .fail) (fun e s _=> .norm e s) (fun i e s id=> @Bool.rec (fun _=>Nat→E→SF→RX) (fun i e s=> .exit i e s) (fun _ e s=> .norm e s) (Nat.beq i id) i e s) (fun e s _=> .ret e s) r id
def loopK :Nat→Code→CF→Nat→E→SF→RX:=fun n ib C m e s=> @Nat.rec (fun _=>Code→CF→Nat→E→SF→RX) (fun _ _ _ _ _=> .fail) (fun _ ih ib C m e s=> @RX.rec (fun _=>(Code→CF→Nat→E→SF→RX)→Code→CF→Nat→RX) (fun _ _ _ _=> .fail) (fun e s ih ib C m=>ih ib C m e s) (fun i e s _ _ _ _=> .exit i e s) (fun e s _ _ _ _=> .ret e s) (ib.run C m e s) ih ib C m) n ib C m e s
def busyQ :LoopState→Bool:=fun t=> @LoopState.rec (fun _=>Bool) false true false false t
def readyQ :LoopState→Bool:=fun t=> @LoopState.rec (fun _=>Bool) true false false false t
def pendK (l:Nat) (e:E) (tm:E) (ps:List Tmp) (as b:EC) (pend:Option EC) (s:SF):RX:=match pend with
 |none=> .norm e (sset l (.loop tm ps as b .exhausted none) s)
 |some (.exit id)=> .exit id e (sset l (.loop tm ps as b .exhausted (some (.exit id))) s)
 |some .ret=> .ret e (sset l (.loop tm ps as b .exhausted (some .ret)) s)
 |some _=> .fail
def endK (l:Nat) (e:E) (r:RV):RX:=match r with
 | .val _ s=>match sget l s with
  |some (.loop tm ps as b st pend)=>bif busyQ st then .fail else pendK l e tm ps as b pend s
  |_=> .fail
 | .fail=> .fail
def callV (C:CF) (v:Value) (args:List Value) (s:SF):RV:=match v with
 | .func (.func g) x y=>C (.func g) (appL x.toList (appL args y.toList)) s
 |_=> .fail
def rangeK (v:Value) (ps:List Tmp) (as b:EC) (C:CF) (e:E) (s:SF):RX:=allocK (.loop e ps as b .ready none) s fun l s=>endK l e (callV C v [.func (.yield l) #[] #[]] s)
def fCode (c:EC):Code:= @EC.rec (fun _=>Code) ⟨fun _ _ e s=> .norm e s⟩ (fun ops=>regC ops) (fun pre ops=>regDC pre ops) (fun _ _ ix iy=> ⟨fun C n e s=>seqK (ix.run C n e s) iy C n⟩) (fun c _ _ ix iy=> @Opd.rec (fun _=>Code) (fun g=> ⟨fun C n e s=>condK (g e) ix iy C n e s⟩) (opnd c))
 (fun id _ ib=> ⟨fun C n e s=>blockK (ib.run C n e s) id⟩) (fun _ ib=> ⟨fun C n e s=>loopK n ib C n e s⟩) (fun f ps as b _ _=> @Opd.rec (fun _=>Code) (fun g=> ⟨fun C _ e s=>rangeK (g e) ps as b C e s⟩) (opnd f)) (fun id=> ⟨fun _ _ e s=> .exit id e s⟩) ⟨fun _ _ e s=> .ret e s⟩ ⟨fun _ _ _ _=> .fail⟩ c
def argK :List Value→Nat→E→SF→(E→SF→RX)→RX:=fun l i e s k=> @List.rec Value (fun _=>Nat→E→SF→(E→SF→RX)→RX) (fun _ e s k=>k e s) (fun v _ ih i e s k=>(selE i).p v e s (fun e s=>ih (Nat.add i 1) e s k)) l i e s k
def parK :List Tmp→List Value→E→SF→(E→SF→RX)→RX:=fun ps vs e s k=> @List.rec Tmp (fun _=>List Value→E→SF→(E→SF→RX)→RX) (fun vs e s k=> @List.rec Value (fun _=>E→SF→(E→SF→RX)→RX) (fun e s k=>k e s) (fun _ _ _ _ _ _=> .fail) vs e s k) (fun t _ ih vs e s k=> @List.rec Value (fun _=>Tmp→(List Value→E→SF→(E→SF→RX)→RX)→E→SF→(E→SF→RX)→RX) (fun _ _ _ _ _=> .fail) (fun v vs _ t ih e s k=>(selE t).p v e s (fun e s=>ih vs e s k)) vs t ih e s k) ps vs e s k
abbrev RS :=List (Tmp×Option (Option Nat))
def loadQ (n:Option Nat) (v:Value) (s:SF):Option Value:=match v with
 | .pointer (some p)=>match sget p.block s with
  |some (.cells _ _ c)=>(match n with
   |none=>nth c p.off
   |some n=>(cutL c p.off n).map fun c=> .agg ⟨c⟩)
  |_=>none
 |_=>none
def gres1 (c:Option (Option Nat)) (v:Value) (s:SF):Option Value:= @Option.rec (Option Nat) (fun _=>Value→SF→Option Value) (fun v _=>some v) (fun n v s=>loadQ n v s) c v s
def consO :Option (List Value)→Value→Option (List Value):=fun r v=> @Option.rec (List Value) (fun _=>Value→Option (List Value)) (fun _=>none) (fun vs v=>some (v::vs)) r v
def gresN :Option Value→(E→SF→Option (List Value))→E→SF→Option (List Value):=fun r ih e s=> @Option.rec Value (fun _=>(E→SF→Option (List Value))→E→SF→Option (List Value)) (fun _ _ _=>none) (fun v ih e s=>consO (ih e s) v) r ih e s
def gres :RS→E→SF→Option (List Value):=fun l e s=> @List.rec (Tmp×Option (Option Nat)) (fun _=>E→SF→Option (List Value)) (fun _ _=>some []) (fun p _ ih e s=>gresN (gres1 p.2 (eget p.1 e) s) ih e s) l e s
def packL :List Value→Value:=fun l=> @List.rec Value (fun _=>Value) (.tuple #[]) (fun v r _=> @List.rec Value (fun _=>Value→List Value→Value) (fun v _=>v) (fun _ _ _ v r=> .tuple ⟨v::r⟩) r v r) l
def resV :Option (List Value)→SF→RV:=fun r s=> @Option.rec (List Value) (fun _=>SF→RV) (fun _=> .fail) (fun vs s=> .val (packL vs) s) r s
def fRes :RX→RS→RV:=fun r rs=> @RX.rec (fun _=>RS→RV) (fun _=> .fail) (fun e s rs=>resV (gres rs e s) s) (fun _ _ _ _=> .fail) (fun e s rs=>resV (gres rs e s) s) r rs
def doneK (l:Nat) (ok:Bool) (s:SF) (st:LoopState) (pd:Option EC):RV:=match sget l s with
 |some (.loop tm ps as b _ _)=> .val (.bool ok) (sset l (.loop tm ps as b st pd) s)
 |_=> .fail
def yDone (l:Nat) (r:RX):RV:=match r with
 | .norm _ s=>doneK l true s .ready none
 | .exit id _ s=>doneK l false s .done (some (.exit id))
 | .ret _ s=>doneK l false s .done (some .ret)
 | .fail=> .fail
def yBody (C:CF) (n:Nat) (l:Nat) (b:EC) (r:RX):RV:=match r with
 | .norm e s=>match sget l s with
  |some (.loop tm ps as b' st pend)=>bif readyQ st then yDone l ((fCode b).run C n e (sset l (.loop tm ps as b' .busy pend) s)) else .fail
  |_=> .fail
 |_=> .fail
def yYield (C:CF) (n:Nat) (l:Nat) (args:List Value) (s:SF):RV:=match sget l s with
 |some (.loop e ps as b st pend)=>yBody C n l b (parK ps args e s fun e s=>(fCode as).run C n e s)
 |_=> .fail
def fFun :Option EFunc→CF→Nat→List Value→SF→RV:=fun f C n args s=> @Option.rec EFunc (fun _=>CF→Nat→List Value→SF→RV) (fun _ _ _ _=> .fail) (fun fn C n args s=> @EFunc.rec (fun _=>CF→Nat→List Value→SF→RV) (fun nt rs b C n args s=> @Bool.rec (fun _=>RS→EC→CF→Nat→List Value→SF→RV) (fun _ _ _ _ _ _=> .fail) (fun rs b C n args s=>fRes (argK args 0 e0 s (fun e s=>(fCode b).run C n e s)) rs) (Nat.ble (lenL args) nt) rs b C n args s) fn C n args s) f C n args s
def fStep (F:FuncId→Option EFunc) (C:CF) (n:Nat):CF:=fun f args s=> @Callee.rec (fun _=>(FuncId→Option EFunc)→CF→Nat→List Value→SF→RV) (fun f F C n args s=>fFun (F f) C n args s) (fun l _ C n args s=>yYield C n l args s) f F C n args s
def fCall (F:FuncId→Option EFunc):Nat→CF:=fun n=> @Nat.rec (fun _=>CF) (fun _ _ _=> .fail) (fun n ih=>fStep F ih n) n
theorem lens_gs {α:Type} (n:N16 α) (f:α→α) {d d':Nat} (h:d<16) (h':d'<16):(lens α d).g ((lens α d').s n f)=if d=d' then f ((lens α d).g n) else(lens α d).g n:=by
 have hd:d=0∨d=1∨d=2∨d=3∨d=4∨d=5∨d=6∨d=7∨d=8∨d=9∨d=10∨d=11∨d=12∨d=13∨d=14∨d=15:=by omega
 have hd':d'=0∨d'=1∨d'=2∨d'=3∨d'=4∨d'=5∨d'=6∨d'=7∨d'=8∨d'=9∨d'=10∨d'=11∨d'=12∨d'=13∨d'=14∨d'=15:=by omega
 rcases hd with rfl|rfl|rfl|rfl|rfl|rfl|rfl|rfl|rfl|rfl|rfl|rfl|rfl|rfl|rfl|rfl<;>rcases hd' with rfl|rfl|rfl|rfl|rfl|rfl|rfl|rfl|rfl|rfl|rfl|rfl|rfl|rfl|rfl|rfl<;>rfl
theorem lens_all {α:Type} (x:α) {d:Nat} (h:d<16):(lens α d).g (all16 x)=x:=by
 have hd:d=0∨d=1∨d=2∨d=3∨d=4∨d=5∨d=6∨d=7∨d=8∨d=9∨d=10∨d=11∨d=12∨d=13∨d=14∨d=15:=by omega
 rcases hd with rfl|rfl|rfl|rfl|rfl|rfl|rfl|rfl|rfl|rfl|rfl|rfl|rfl|rfl|rfl|rfl<;>rfl
theorem blt_t {a b:Nat} (h:a<b):Nat.blt a b=true:=by simpa[Nat.blt_eq] using h
theorem blt_f {a b:Nat} (h:¬a<b):Nat.blt a b=false:=by
 cases e:Nat.blt a b with
 |false=>rfl
 |true=>exact absurd (by simpa[Nat.blt_eq] using e) h
theorem ble_f {a b:Nat} (h:¬a≤b):Nat.ble a b=false:=by
 cases e:Nat.ble a b with
 |false=>rfl
 |true=>exact absurd (Nat.le_of_ble_eq_true e) h
theorem beq_f {a b:Nat} (h:¬a=b):Nat.beq a b=false:=by
 cases e:Nat.beq a b with
 |false=>rfl
 |true=>exact absurd (Nat.eq_of_beq_eq_true e) h
theorem selE_g {t:Nat} (h:t<256) (e:E):(selE t).g e=(lens _ (t%16)).g ((lens _ (t/16)).g e):=by unfold selE;rw[blt_t h];rfl
theorem selE_p {t:Nat} (h:t<256) (v:Value) (e:E) (s:SF) (c:E→SF→RX):(selE t).p v e s c=c ((lens _ (t/16)).s e fun n=>(lens _ (t%16)).s n fun _=>v) s:=by unfold selE;rw[blt_t h];rfl
theorem eget_put {t:Nat} (h:t<256) (v:Value) (e:E) (u:Nat):eget u ((lens _ (t/16)).s e fun n=>(lens _ (t%16)).s n fun _=>v)=if u=t then v else eget u e:=by
 unfold eget;by_cases hu:u<256
 ·rw[selE_g hu,selE_g hu,lens_gs _ _ (by omega) (by omega)]
  by_cases h1:u/16=t/16
  ·rw[if_pos h1,lens_gs _ _ (by omega) (by omega)]
   by_cases h2:u%16=t%16
   ·rw[if_pos h2,if_pos (by omega)]
   ·rw[if_neg h2,if_neg (by omega)]
  ·rw[if_neg h1,if_neg (by omega)]
 ·rw[if_neg (by omega)]
  unfold selE;rw[blt_f hu];rfl
def R (e:E) (a:Env):Prop:=∀t,eget t e=a.get t
theorem R.put {e:E} {a:Env} (h:R e a) {d:Nat} {v:Value} {s:SF} {c:E→SF→RX} {r:RX} (hr:(selE d).p v e s c=r) (hn:r≠ .fail):∃e',r=c e' s∧R e' (a.put (some d) v):=by
 by_cases hd:d<256
 ·rw[selE_p hd] at hr
  refine⟨_,hr.symm,fun u=> ?_⟩
  rw[eget_put hd];unfold Env.put Env.get;simp only
  rw[T.get_set];by_cases hu:u=d
  ·rw[if_pos hu,if_pos hu];rfl
  ·rw[if_neg hu,if_neg hu];exact h u
 ·exfalso
  apply hn
  rw[←hr];unfold selE;rw[blt_f hd];rfl
theorem R.e0 :R e0 .leaf:=fun t=>by
 unfold eget;by_cases h:t<256
 ·rw[selE_g h];unfold Fast.e0;rw[lens_all _ (by omega),lens_all _ (by omega)];rfl
 ·unfold selE;rw[blt_f h];rfl
theorem selM_g {b:Nat} (h:b<65536) (m:M4):(selM b).g m=(lens _ (b%16)).g ((lens _ (b/16%16)).g ((lens _ (b/256%16)).g ((lens _ (b/4096)).g m))):=by unfold selM;rw[blt_t h];rfl
theorem selM_p {b:Nat} (h:b<65536) (m:M4) (o:FObj):(selM b).p m o=(lens _ (b/4096)).s m fun m=>(lens _ (b/256%16)).s m fun m=>(lens _ (b/16%16)).s m fun m=>(lens _ (b%16)).s m fun _=>some o:=by unfold selM;rw[blt_t h];rfl
theorem selM_bad {b:Nat} (h:¬b<65536):selM b=⟨fun _=>none,fun m _=>m,false⟩:=by unfold selM;rw[blt_f h];rfl
theorem sel_set {b b':Nat} (h:b<65536) (m:M4) (o:FObj):(selM b').g ((selM b).p m o)=if b'=b then some o else(selM b').g m:=by
 by_cases h':b'<65536
 ·rw[selM_p h,selM_g h',selM_g h',lens_gs _ _ (by omega) (by omega)]
  by_cases h1:b'/4096=b/4096
  ·rw[if_pos h1,lens_gs _ _ (by omega) (by omega)]
   by_cases h2:b'/256%16=b/256%16
   ·rw[if_pos h2,lens_gs _ _ (by omega) (by omega)]
    by_cases h3:b'/16%16=b/16%16
    ·rw[if_pos h3,lens_gs _ _ (by omega) (by omega)]
     by_cases h4:b'%16=b%16
     ·rw[if_pos h4,if_pos (by omega)]
     ·rw[if_neg h4,if_neg (by omega)]
    ·rw[if_neg h3,if_neg (by omega)]
   ·rw[if_neg h2,if_neg (by omega)]
  ·rw[if_neg h1,if_neg (by omega)]
 ·rw[selM_bad h',if_neg (by omega)]
inductive OR :FObj→EObj→Prop
 |cells (st:St) (e:TypeId) (c:List Value):OR (.cells st e c) (.cells st e c)
 |dead:OR .dead .dead
 |map (es:List MapEntry) (c:Nat):OR (.map es c) (.map es c)
 |iter (t:ByteArray) (p:Nat):OR (.iter t p) (.iter t p)
 |loop {e:E} {a:Env} (h:R e a) (ps:List Tmp) (as b:EC) (st:LoopState) (pend:Option EC):OR (.loop e ps as b st pend) (.loop a ps as b st pend)
structure SR (s:SF) (σ:Store):Prop where
 sz:s.size=σ.size
 ob:∀b x,sget b s=some x→∃y,σ.get b=some y∧OR x y
theorem SR.lt {b:Nat} {s:SF} {x:FObj} (h:sget b s=some x):b<65536:=by
 by_cases hb:b<65536
 ·exact hb
 ·unfold sget at h;rw[selM_bad hb] at h;cases h
theorem SR.set {s:SF} {σ:Store} (h:SR s σ) {b:Nat} {x0 x:FObj} {y:EObj} (hb:sget b s=some x0) (ho:OR x y):SR (sset b x s) (σ.set b y):=by
 have hl:=SR.lt hb;obtain⟨y0,hy,_⟩:=h.ob _ _ hb;refine⟨h.sz,fun b' x' hx=> ?_⟩
 unfold sget sset at hx;simp only at hx;rw[sel_set hl] at hx;rw[Store.get_set _ _ _ _ (Store.get_lt hy)];by_cases e:b'=b
 ·rw[if_pos e] at hx ⊢;cases hx;exact⟨_,rfl,ho⟩
 ·rw[if_neg e] at hx ⊢;exact h.ob _ _ hx
theorem SR.alloc {s:SF} {σ:Store} (h:SR s σ) {o:FObj} {y:EObj} (ho:OR o y) {k:Nat→SF→RX} (hn:allocK o s k≠ .fail):∃s',allocK o s k=k σ.size s'∧SR s' (σ.alloc y):=by
 obtain⟨n,m⟩:=s;have e:allocK o ⟨n,m⟩ k=if n<65536 then k n ⟨n+1,(selM n).p m o⟩ else .fail:=by
  by_cases hb:n<65536
  ·have:(selM n).ok=true:=by unfold selM;rw[blt_t hb];rfl
   rw[if_pos hb];show @Bool.rec (fun _=>Nat→M4→FObj→(Nat→SF→RX)→RX) (fun _ _ _ _=> .fail) (fun n m o k=>k n ⟨Nat.succ n,(selM n).p m o⟩) (selM n).ok n m o k=_
   rw[this]
  ·rw[if_neg hb]
   show @Bool.rec (fun _=>Nat→M4→FObj→(Nat→SF→RX)→RX) (fun _ _ _ _=> .fail) (fun n m o k=>k n ⟨Nat.succ n,(selM n).p m o⟩) (selM n).ok n m o k=_
   rw[selM_bad hb]
 by_cases hb:n<65536
 ·rw[if_pos hb] at e
  have hz:n=σ.size:=h.sz
  refine⟨_,by rw[e,←hz], ?_,fun b x hx=> ?_⟩
  ·show n+1=_;rw[hz,Store.size_alloc]
  ·unfold sget at hx
   simp only at hx;rw[sel_set hb] at hx;rw[Store.get_alloc,←hz];by_cases e:b=n
   ·rw[if_pos e] at hx ⊢;cases hx;exact⟨_,rfl,ho⟩
   ·rw[if_neg e] at hx ⊢;exact h.ob _ _ hx
 ·rw[if_neg hb] at e;exact absurd e hn
theorem SR.s0 :SR s0 Store.empty:=⟨rfl,fun b x hx=>by
 exfalso
 have hb:=SR.lt hx;unfold sget at hx;rw[selM_g hb] at hx;unfold Fast.s0 m0 at hx;simp only at hx;rw[lens_all _ (by omega),lens_all _ (by omega),lens_all _ (by omega),lens_all _ (by omega)] at hx
 cases hx⟩
def Gd (q:Option (Value×Store)) (k:K) (r:RX):Prop:=r≠ .fail→∃v s σ,q=some (v,σ)∧SR s σ∧r=k v s
theorem Gd.no {q:Option (Value×Store)} {k:K} {r:RX} (h:r= .fail):Gd q k r:=fun hn=>absurd h hn
theorem Gd.yes {q:Option (Value×Store)} {k:K} {v:Value} {s:SF} {σ:Store} (hq:q=some (v,σ)) (h:SR s σ):Gd q k (k v s):=fun _=> ⟨v,s,σ,hq,h,rfl⟩
theorem Gd.new {q:Option (Value×Store)} {k:K} {s:SF} {σ:Store} (h:SR s σ) {o:FObj} {y:EObj} (ho:OR o y) {f:Nat→Value} (hq:q=some (f σ.size,σ.alloc y)):Gd q k (allocK o s fun b s=>k (f b) s):=fun hn=>by
 obtain⟨s',e,h'⟩:=h.alloc ho hn;exact⟨_,s',_,hq,h',e⟩
theorem opnd_ok {e:E} {a:Env} (h:R e a) (x:Operand):(opnd x).g e=a.eval x:=by
 cases x with
 |tmp t=>exact h t
 |_=>rfl
theorem eeval_ok {e:E} {a:Env} (h:R e a) (x:Operand):eeval x e=a.eval x:=by
 cases x with
 |tmp t=>exact h t
 |_=>rfl
theorem evalL_ok {e:E} {a:Env} (h:R e a):∀l,evalL l e=l.map a.eval
 | []=>rfl
 |x::r=>by show eeval x e::evalL r e=_;rw[eeval_ok h,evalL_ok h r];rfl
theorem retK_ok {s:SF} {σ:Store} (h:SR s σ) (r:Option Value) (k:K):Gd (r.map (·,σ)) k (retK r s k):=by
 cases r with
 |none=>exact .no rfl
 |some v=>exact .yes rfl h
theorem iadd_eq (a b:Int):iadd a b=a+b:=by
 cases a<;>cases b<;>first|rfl|(simp only[iadd];omega)
theorem isub_eq (a b:Int):isub a b=a - b:=by
 cases a with
 |ofNat m=>cases b with
  |ofNat n=>
   show @Bool.rec (fun _=>Nat→Nat→Int) (fun m n=>Int.negSucc (Nat.sub (Nat.sub n m) 1)) (fun m n=>Int.ofNat (Nat.sub m n)) (Nat.ble n m) m n=_
   by_cases h:n≤m
   ·rw[Nat.ble_eq_true_of_le h]
    show Int.ofNat (m - n)=Int.ofNat m - Int.ofNat n
    simp only[Int.ofNat_eq_natCast];omega
   ·rw[ble_f h]
    show Int.negSucc (n - m - 1)=Int.ofNat m - Int.ofNat n
    simp only[Int.ofNat_eq_natCast,Int.negSucc_eq];omega
  |negSucc n=>show Int.ofNat (m+n+1)=Int.ofNat m - Int.negSucc n;simp only[Int.ofNat_eq_natCast,Int.negSucc_eq];omega
 |negSucc m=>cases b with
  |ofNat n=>show Int.negSucc (m+n)=Int.negSucc m - Int.ofNat n;simp only[Int.ofNat_eq_natCast,Int.negSucc_eq];omega
  |negSucc n=>rfl
theorem imul_eq (a b:Int):imul a b=a*b:=by
 cases a with
 |ofNat m=>cases b with
  |ofNat n=>rfl
  |negSucc n=>rfl
 |negSucc m=>cases b with
  |ofNat n=>rfl
  |negSucc n=>rfl
theorem ilt_eq (a b:Int):ilt a b=decide (a<b):=by
 cases a with
 |ofNat m=>cases b with
  |ofNat n=>
   show Nat.blt m n=_
   by_cases h:m<n
   ·rw[blt_t h];exact(decide_eq_true (by simp only[Int.ofNat_eq_natCast];omega)).symm
   ·rw[blt_f h];exact(decide_eq_false (by simp only[Int.ofNat_eq_natCast];omega)).symm
  |negSucc n=>exact(decide_eq_false (by simp only[Int.ofNat_eq_natCast,Int.negSucc_eq];omega)).symm
 |negSucc m=>cases b with
  |ofNat n=>exact(decide_eq_true (by simp only[Int.ofNat_eq_natCast,Int.negSucc_eq];omega)).symm
  |negSucc n=>
   show Nat.blt n m=_
   by_cases h:n<m
   ·rw[blt_t h];exact(decide_eq_true (by simp only[Int.negSucc_eq];omega)).symm
   ·rw[blt_f h];exact(decide_eq_false (by simp only[Int.negSucc_eq];omega)).symm
theorem ile_eq (a b:Int):ile a b=decide (a≤b):=by
 cases a with
 |ofNat m=>cases b with
  |ofNat n=>
   show Nat.ble m n=_
   by_cases h:m≤n
   ·rw[Nat.ble_eq_true_of_le h];exact(decide_eq_true (by simp only[Int.ofNat_eq_natCast];omega)).symm
   ·rw[ble_f h];exact(decide_eq_false (by simp only[Int.ofNat_eq_natCast];omega)).symm
  |negSucc n=>exact(decide_eq_false (by simp only[Int.ofNat_eq_natCast,Int.negSucc_eq];omega)).symm
 |negSucc m=>cases b with
  |ofNat n=>exact(decide_eq_true (by simp only[Int.ofNat_eq_natCast,Int.negSucc_eq];omega)).symm
  |negSucc n=>
   show Nat.ble n m=_
   by_cases h:n≤m
   ·rw[Nat.ble_eq_true_of_le h];exact(decide_eq_true (by simp only[Int.negSucc_eq];omega)).symm
   ·rw[ble_f h];exact(decide_eq_false (by simp only[Int.negSucc_eq];omega)).symm
theorem ieq_eq (a b:Int):ieq a b=(a==b):=by
 cases a with
 |ofNat m=>cases b with
  |ofNat n=>
   show Nat.beq m n=_
   by_cases h:m=n
   ·subst h;rw[Nat.beq_refl];simp
   ·rw[beq_f h];symm;exact beq_eq_false_iff_ne.2 (by simp only[Int.ofNat_eq_natCast];omega)
  |negSucc n=>rfl
 |negSucc m=>cases b with
  |ofNat n=>rfl
  |negSucc n=>
   show Nat.beq m n=_
   by_cases h:m=n
   ·subst h;rw[Nat.beq_refl];simp
   ·rw[beq_f h];symm;exact beq_eq_false_iff_ne.2 (by simp only[Int.negSucc_eq];omega)
theorem iquo_eq {a b n:Int} (h:iquo a b=some n):b≠0∧n=a.tdiv b:=by
 cases a with
 |ofNat m=>cases b with
  |ofNat q=>
   have h':(bif Nat.beq q 0 then none else some (Int.ofNat (Nat.div m q)))=some n:=h
   by_cases e:q=0
   ·subst e;cases h'
   ·rw[beq_f e] at h';cases h'
    exact⟨by simp only[Int.ofNat_eq_natCast];omega,rfl⟩
  |negSucc n=>cases h
 |negSucc m=>cases b<;>cases h
theorem irem_eq {a b n:Int} (h:irem a b=some n):b≠0∧n=a.tmod b:=by
 cases a with
 |ofNat m=>cases b with
  |ofNat q=>
   have h':(bif Nat.beq q 0 then none else some (Int.ofNat (Nat.mod m q)))=some n:=h
   by_cases e:q=0
   ·subst e;cases h'
   ·rw[beq_f e] at h';cases h'
    exact⟨by simp only[Int.ofNat_eq_natCast];omega,rfl⟩
  |negSucc n=>cases h
 |negSucc m=>cases b<;>cases h
theorem wrap_fit {n:Int} (h: -9223372036854775808≤n∧n<9223372036854775808):IntKind.i64.wrap n=n:=by
 have e:IntKind.i64.wrap n=if n%18446744073709551616≥9223372036854775808 then n%18446744073709551616 - 18446744073709551616 else n%18446744073709551616:=by
  simp[IntKind.wrap,IntKind.signed,IntKind.bits]
 rw[e];split<;>omega
theorem fitK_ok {s:SF} {σ:Store} (h:SR s σ) (n:Int) (k:K):Gd (some (.int .i64 (IntKind.i64.wrap n),σ)) k (fitK n s k):=by
 cases n with
 |ofNat m=>
  by_cases hb:m<9223372036854775808
  ·have:fitK (.ofNat m) s k=k (.int .i64 (.ofNat m)) s:=by
    show @Bool.rec (fun _=>Nat→SF→K→RX) (fun _ _ _=> .fail) (fun m s k=>k (.int .i64 (.ofNat m)) s) (Nat.blt m 9223372036854775808) m s k=_
    rw[blt_t hb]
   rw[this,wrap_fit (by simp only[Int.ofNat_eq_natCast];omega)]
   exact .yes rfl h
  ·refine .no ?_
   show @Bool.rec (fun _=>Nat→SF→K→RX) (fun _ _ _=> .fail) (fun m s k=>k (.int .i64 (.ofNat m)) s) (Nat.blt m 9223372036854775808) m s k=_
   rw[blt_f hb]
 |negSucc m=>
  by_cases hb:m<9223372036854775808
  ·have:fitK (.negSucc m) s k=k (.int .i64 (.negSucc m)) s:=by
    show @Bool.rec (fun _=>Nat→SF→K→RX) (fun _ _ _=> .fail) (fun m s k=>k (.int .i64 (.negSucc m)) s) (Nat.blt m 9223372036854775808) m s k=_
    rw[blt_t hb]
   rw[this,wrap_fit (by simp only[Int.negSucc_eq];omega)]
   exact .yes rfl h
  ·refine .no ?_
   show @Bool.rec (fun _=>Nat→SF→K→RX) (fun _ _ _=> .fail) (fun m s k=>k (.int .i64 (.negSucc m)) s) (Nat.blt m 9223372036854775808) m s k=_
   rw[blt_f hb]
theorem slowK_ok {s:SF} {σ:Store} (h:SR s σ) (op:BinOp) (a b:Int) (k:K):Gd ((binV op (.int .i64 a) (.int .i64 b)).map (·,σ)) k (slowK op a b s k):=retK_ok h _ k
theorem intF_ok {s:SF} {σ:Store} (h:SR s σ) (op:BinOp) (a b:Int) (k:K):Gd ((binV op (.int .i64 a) (.int .i64 b)).map (·,σ)) k ((intF op).f a b s k):=by
 cases op with
 |add=>show Gd _ _ (fitK (iadd a b) s k);rw[iadd_eq];exact fitK_ok h _ k
 |sub=>show Gd _ _ (fitK (isub a b) s k);rw[isub_eq];exact fitK_ok h _ k
 |mul=>show Gd _ _ (fitK (imul a b) s k);rw[imul_eq];exact fitK_ok h _ k
 |quo=>
  show Gd _ _ (fitO (iquo a b) .quo a b s k)
  cases hq:iquo a b with
  |none=>exact slowK_ok h _ _ _ k
  |some n=>
   obtain⟨h1,rfl⟩:=iquo_eq hq;show Gd ((if b=0 then none else some (Value.int .i64 (IntKind.i64.wrap (a.tdiv b)))).map (·,σ)) k (fitK _ s k)
   rw[if_neg h1];exact fitK_ok h _ k
 |rem=>
  show Gd _ _ (fitO (irem a b) .rem a b s k)
  cases hq:irem a b with
  |none=>exact slowK_ok h _ _ _ k
  |some n=>
   obtain⟨h1,rfl⟩:=irem_eq hq;have hw:IntKind.i64.wrap (a.tmod b)=a.tmod b∨fitK (a.tmod b) s k= .fail:=by
    cases hn:a.tmod b with
    |ofNat m=>
     by_cases hb:m<9223372036854775808
     ·exact .inl (wrap_fit (by simp only[Int.ofNat_eq_natCast];omega))
     ·refine .inr ?_
      show @Bool.rec (fun _=>Nat→SF→K→RX) (fun _ _ _=> .fail) (fun m s k=>k (.int .i64 (.ofNat m)) s) (Nat.blt m 9223372036854775808) m s k=_
      rw[blt_f hb]
    |negSucc m=>
     by_cases hb:m<9223372036854775808
     ·exact .inl (wrap_fit (by simp only[Int.negSucc_eq];omega))
     ·refine .inr ?_
      show @Bool.rec (fun _=>Nat→SF→K→RX) (fun _ _ _=> .fail) (fun m s k=>k (.int .i64 (.negSucc m)) s) (Nat.blt m 9223372036854775808) m s k=_
      rw[blt_f hb]
   show Gd ((if b=0 then none else some (Value.int .i64 (a.tmod b))).map (·,σ)) k (fitK _ s k)
   rw[if_neg h1];rcases hw with hw|hw
   ·have:=fitK_ok h (a.tmod b) k;rw[hw] at this;exact this
   ·exact .no hw
 |eql=>show Gd _ _ (k (.bool (ieq a b)) s);rw[ieq_eq];exact .yes rfl h
 |neq=>show Gd _ _ (k (.bool (not' (ieq a b))) s);rw[ieq_eq,show not' (a==b)=(a !=b) from by unfold bne;cases (a==b)<;>rfl];exact .yes rfl h
 |lss=>show Gd _ _ (k (.bool (ilt a b)) s);rw[ilt_eq];exact .yes rfl h
 |leq=>show Gd _ _ (k (.bool (ile a b)) s);rw[ile_eq];exact .yes rfl h
 |gtr=>show Gd _ _ (k (.bool (ilt b a)) s);rw[ilt_eq];exact .yes rfl h
 |geq=>show Gd _ _ (k (.bool (ile b a)) s);rw[ile_eq];exact .yes rfl h
 |_=>exact slowK_ok h _ _ _ k
theorem binK_ok {s:SF} {σ:Store} (h:SR s σ) (op:BinOp) (x y:Value) (k:K):Gd ((binV op x y).map (·,σ)) k ((binF op).f x y s k):=by
 cases x with
 |int kk a=>cases y with
  |int kj b=>cases kk<;>cases kj<;>first|exact intF_ok h op a b k|exact retK_ok h _ k
  |_=>exact retK_ok h _ k
 |_=>exact retK_ok h _ k
theorem nth_eq :∀(c:List Value) (n:Nat),nth c n=c[n]?
 | [],n=>by simp[nth]
 |x::c,0=>rfl
 |x::c,n+1=>by show nth c n=_;rw[nth_eq c];simp
theorem cutL_eq :∀(c:List Value) (o n:Nat),cutL c o n=if o+n≤c.length then some ((c.drop o).take n) else none
 | [],0,0=>rfl
 | [],0,n+1=>by show none=_;rw[if_neg (by simp)]
 | [],o+1,n=>by show none=_;rw[if_neg (by simp)]
 |x::c,0,0=>by show some []=_;rw[if_pos (by simp)];simp
 |x::c,0,n+1=>by
  show @Option.rec (List Value) (fun _=>Value→Option (List Value)) (fun _=>none) (fun r x=>some (x::r)) (cutL c 0 n) x=_
  rw[cutL_eq c 0 n];by_cases h:0+n≤c.length
  ·rw[if_pos h,if_pos (by simp;omega)];simp
  ·rw[if_neg h,if_neg (by simp;omega)]
 |x::c,o+1,n=>by
  show cutL c o n=_
  rw[cutL_eq c o n];by_cases h:o+n≤c.length
  ·rw[if_pos h,if_pos (by simp;omega)];simp
  ·rw[if_neg h,if_neg (by simp;omega)]
theorem lenL_eq :∀l,lenL l=l.length
 | []=>rfl
 |x::r=>by show lenL r+1=_;rw[lenL_eq r];rfl
theorem appL_eq :∀l r,appL l r=l++r
 | [],_=>rfl
 |x::l,r=>by show x::appL l r=_;rw[appL_eq l r];rfl
theorem over_eq :∀(vs c:List Value),over vs c=if vs.length≤c.length then some (vs++c.drop vs.length) else none
 | [],c=>by show some c=_;simp
 |v::vs,[]=>by show none=_;rw[if_neg (by simp)]
 |v::vs,x::c=>by
  show @Option.rec (List Value) (fun _=>Value→Option (List Value)) (fun _=>none) (fun r v=>some (v::r)) (over vs c) v=_
  rw[over_eq vs c];by_cases h:vs.length≤c.length
  ·rw[if_pos h,if_pos (by simpa using h)];simp
  ·rw[if_neg h,if_neg (by simpa using h)]
theorem splice_eq :∀(n:Nat) (c vs:List Value),splice n c vs=if n+vs.length≤c.length then some (c.take n++vs++c.drop (n+vs.length)) else none
 |0,c,vs=>by show over vs c=_;rw[over_eq];simp
 |n+1,[],vs=>by show none=_;rw[if_neg (by simp)]
 |n+1,x::c,vs=>by
  show @Option.rec (List Value) (fun _=>Value→Option (List Value)) (fun _=>none) (fun r x=>some (x::r)) (splice n c vs) x=_
  rw[splice_eq n c vs];by_cases h:n+vs.length≤c.length
  ·rw[if_pos h,if_pos (by simp;omega)]
   simp[show n+1+vs.length=n+vs.length+1 by omega]
  ·rw[if_neg h,if_neg (by simp;omega)]
theorem oneQ_eq (v:Value):oneQ v=oneC v:=by cases v<;>rfl
theorem allOne_eq :∀l,allOne l=l.all oneC
 | []=>rfl
 |v::r=>by
  show @Bool.rec (fun _=>Bool→Bool) (fun _=>false) (fun b=>b) (oneQ v) (allOne r)=_
  rw[oneQ_eq,allOne_eq r,List.all_cons];cases oneC v<;>rfl
theorem vcl_eq (v:Value):vcl v=vcells v:=by cases v<;>rfl
theorem cell1_ok {s:SF} {σ:Store} (h:SR s σ) (c:List Value) (o:Nat) (k:K):Gd ((c[o]?).map (·,σ)) k (retK (nth c o) s k):=by rw[nth_eq];exact retK_ok h _ k
theorem load1K_ok {s:SF} {σ:Store} (h:SR s σ) (v:Value) (k:K):Gd (evI (.load none (cs v)) .leaf σ) k (load1K v s k):=by
 cases v with
 |pointer a=>cases a with
  |none=>exact .no rfl
  |some p=>
   obtain⟨b,off,sp⟩:=p;show Gd ((loadE σ none ⟨b,off,sp⟩).map (·,σ)) k (load1O (sget b s) off s k)
   cases hg:sget b s with
   |none=>exact .no rfl
   |some o=>
    obtain⟨y,hy,ho⟩:=h.ob _ _ hg;simp only[loadE,hy];cases ho with
    |cells st e c=>exact cell1_ok h c off k
    |_=>exact .no rfl
 |_=>exact .no rfl
theorem loadK_ok {s:SF} {σ:Store} (h:SR s σ) (v:Value) (n:Nat) (k:K):Gd (evI (.load (some n) (cs v)) .leaf σ) k (loadK v (some n) s k):=by
 cases v with
 |pointer a=>cases a with
  |none=>exact .no rfl
  |some p=>
   obtain⟨b,off,sp⟩:=p;show Gd ((loadE σ (some n) ⟨b,off,sp⟩).map (·,σ)) k (loadO (sget b s) off (some n) s k)
   cases hg:sget b s with
   |none=>exact .no rfl
   |some o=>
    obtain⟨y,hy,ho⟩:=h.ob _ _ hg;simp only[loadE,hy];cases ho with
    |cells st e c=>
     show Gd (Option.map (fun x=>(x,σ)) (if off+n≤c.length then some (Value.agg ((c.drop off).take n).toArray) else none)) k (aggK (cutL c off n) s k)
     rw[cutL_eq];by_cases hb:off+n≤c.length
     ·rw[if_pos hb,if_pos hb];exact .yes rfl h
     ·rw[if_neg hb,if_neg hb];exact .no rfl
    |_=>exact .no rfl
 |_=>exact .no rfl
theorem storeA_ok {s:SF} {σ:Store} (h:SR s σ) (p:Addr) (vs:List Value) (k:SF→RX) (hn:storeA (some p) vs s k≠ .fail):∃s' σ',storeE σ p vs=some σ'∧SR s' σ'∧storeA (some p) vs s k=k s':=by
 obtain⟨b,off,sp⟩:=p;have e0:storeA (some ⟨b,off,sp⟩) vs s k=storeO (sget b s) b off vs s k:=rfl
 rw[e0] at hn ⊢;cases hg:sget b s with
 |none=>rw[hg] at hn;exact absurd rfl hn
 |some o=>
  rw[hg] at hn;obtain⟨y,hy,ho⟩:=h.ob _ _ hg;simp only[storeE,hy];cases ho with
  |cells st e c=>
   have e1:storeO (some (.cells st e c)) b off vs s k= @Bool.rec (fun _=>RX) .fail (storeC st e c b off vs s k) (allOne vs):=by cases hq:allOne vs<;>(simp only[storeO,hq])
   rw[e1] at hn ⊢;cases ha:allOne vs with
   |false=>rw[ha] at hn;exact absurd rfl hn
   |true=>
    rw[ha] at hn;rw[allOne_eq] at ha;have key:∀st',(st'≠St.ro)→setC (splice off c vs) st' e b s k≠ .fail→∃s' σ',(if st'≠ .ro∧off+vs.length≤c.length∧vs.all oneC then some (σ.set b (.cells st' e (c.take off++vs++c.drop (off+vs.length)))) else none)=some σ'∧SR s' σ'∧setC (splice off c vs) st' e b s k=k s':=by
     intro st' hst hn';rw[splice_eq] at hn' ⊢;by_cases hb:off+vs.length≤c.length
     ·rw[if_pos hb] at hn' ⊢
      rw[if_pos ⟨hst,hb,ha⟩];exact⟨_,_,rfl,h.set hg (.cells _ _ _),rfl⟩
     ·rw[if_neg hb] at hn';exact absurd rfl hn'
    cases st with
    |ro=>exact absurd rfl hn
    |rw=>exact key .rw (by simp) hn
    |grow=>exact key .grow (by simp) hn
  |_=>exact absurd rfl hn
theorem storeK_ok {s:SF} {σ:Store} (h:SR s σ) (v w:Value) (n:Nat) (k:K):Gd (evI (.store n (cs v) (cs w)) .leaf σ) k (storeK v n (vcl w) s k):=by
 rw[vcl_eq];cases v with
 |pointer a=>
  have e:storeK (.pointer a) n (vcells w) s k= @Bool.rec (fun _=>RX) .fail (storeA a (vcells w) s (k undefE)) (Nat.beq (lenL (vcells w)) n):=by
   simp only[storeK];cases Nat.beq (lenL (vcells w)) n<;>rfl
  rw[e,lenL_eq];by_cases hl:(vcells w).length=n
  ·rw[hl,Nat.beq_refl]
   cases a with
   |none=>exact .no rfl
   |some p=>
    intro hn;obtain⟨s',σ',h1,h2,h3⟩:=storeA_ok h p (vcells w) (k undefE) hn;refine⟨undefE,s',σ', ?_,h2,h3⟩
    show(if(vcells w).length=n then(storeE σ p (vcells w)).map (undefE,·) else none)=_
    rw[if_pos hl,h1];rfl
  ·rw[beq_f hl];exact .no rfl
 |_=>exact .no rfl
theorem fadd_eq (p:Addr) (o:Nat):fadd p o=p.add o:=by
 cases o with
 |zero=>rfl
 |succ n=>rfl
theorem nilcK_ok {s:SF} {σ:Store} (h:SR s σ) (v:Value) (k:K):Gd (evI (.nilc (cs v)) .leaf σ) k (nilcK v s k):=by
 cases v with
 |pointer a=>cases a with
  |none=>exact .no rfl
  |some p=>exact .yes rfl h
 |func f x y=>cases f with
  |func g=>exact .yes rfl h
  |yield g=>exact .yes rfl h
  |_=>exact .no rfl
 |_=>exact .no rfl
theorem nilpK_ok {s:SF} {σ:Store} (h:SR s σ) (v:Value) (k:K):Gd (evI (.addOff (cs v) 0) .leaf σ) k (nilpK v s k):=by
 cases v with
 |pointer a=>cases a with
  |none=>exact .no rfl
  |some p=>exact .yes (show some (Value.pointer (some (p.add 0)),σ)=_ from by rw[←fadd_eq];rfl) h
 |_=>exact .no rfl
theorem addK_ok {s:SF} {σ:Store} (h:SR s σ) (v:Value) (o:Nat) (k:K):Gd (evI (.addOff (cs v) o) .leaf σ) k (addK v o s k):=by
 cases v with
 |pointer a=>cases a with
  |none=>exact .no rfl
  |some p=>exact .yes (show some (Value.pointer (some (p.add o)),σ)=_ from by rw[←fadd_eq]) h
 |_=>exact .no rfl
theorem atV_ok {s:SF} {σ:Store} (h:SR s σ) (v:Value) (len esz:Nat) (p:Addr) (k:K):Gd (match v with
  | .int _ i=>if 0≤i∧i<len then some (.pointer (some (p.add (i.toNat*esz))),σ) else none
  |_=>none) k (atV v len esz p s k):=by
 cases v with
 |int kk i=>cases i with
  |ofNat m=>
   have e:atV (.int kk (.ofNat m)) len esz p s k= @Bool.rec (fun _=>RX) .fail (k (.pointer (some (fadd p (Nat.mul m esz)))) s) (Nat.blt m len):=by
    simp only[atV,atI];cases Nat.blt m len<;>rfl
   rw[e];by_cases hb:m<len
   ·rw[blt_t hb]
    refine .yes ?_ h
    show(if(0:Int)≤Int.ofNat m∧Int.ofNat m<(len:Int) then some (Value.pointer (some (p.add ((Int.ofNat m).toNat*esz))),σ) else none)=_
    rw[if_pos ⟨by simp only[Int.ofNat_eq_natCast];omega,by simp only[Int.ofNat_eq_natCast];omega⟩,fadd_eq];rfl
   ·rw[blt_f hb];exact .no rfl
  |negSucc m=>exact .no rfl
 |_=>exact .no rfl
theorem idxSK_ok {s:SF} {σ:Store} (h:SR s σ) (v w:Value) (esz:Nat) (k:K):Gd (evI (.idxS esz (cs v) (cs w)) .leaf σ) k (idxSK v esz w s k):=by
 cases v with
 |slice a len cap=>cases a with
  |none=>exact .no rfl
  |some p=>
   have:=atV_ok h w len esz p k
   cases w<;>exact this
 |_=>exact .no rfl
theorem idxAK_ok {s:SF} {σ:Store} (h:SR s σ) (v w:Value) (len esz:Nat) (k:K):Gd (evI (.idxA len esz (cs v) (cs w)) .leaf σ) k (idxAK v len esz w s k):=by
 cases v with
 |pointer a=>cases a with
  |none=>exact .no rfl
  |some p=>
   have:=atV_ok h w len esz p k
   cases w<;>exact this
 |_=>exact .no rfl
theorem lenK_ok {s:SF} {σ:Store} (h:SR s σ) (v:Value) (k:K):Gd (evI (.lenS (cs v)) .leaf σ) k (lenK v s k):=by
 cases v with
 |slice a len cap=>exact .yes rfl h
 |_=>exact .no rfl
theorem extK_ok {s:SF} {σ:Store} (h:SR s σ) (v:Value) (i:Nat) (k:K):Gd (evI (.ext (cs v) i) .leaf σ) k (extK v i s k):=by
 cases v with
 |tuple vs=>
  show Gd ((vs[i]?).map (·,σ)) k (retK (nth vs.toList i) s k)
  rw[nth_eq,Array.getElem?_toList];exact retK_ok h _ k
 |_=>exact .no rfl
theorem cellF_ok {s:SF} {σ:Store} (h:SR s σ) (n:Option Nat) (c:List Value) (o:Nat) (k:K):Gd ((partE n c o).map (·,σ)) k (cellF n c o s k):=by
 cases n with
 |none=>exact cell1_ok h c o k
 |some n=>exact .yes rfl h
theorem fieldK_ok {s:SF} {σ:Store} (h:SR s σ) (v:Value) (o:Nat) (n:Option Nat) (k:K):Gd (evI (.field o n (cs v)) .leaf σ) k (fieldK v o n s k):=by
 cases v with
 |agg c=>exact cellF_ok h n c.toList o k
 |_=>exact .no rfl
theorem indexK_ok {s:SF} {σ:Store} (h:SR s σ) (v w:Value) (len esz:Nat) (n:Option Nat) (k:K):Gd (evI (.index len esz n (cs v) (cs w)) .leaf σ) k (indexK v len esz n w s k):=by
 cases v with
 |agg c=>cases w with
  |int kk i=>cases i with
   |ofNat m=>
    have e:indexK (.agg c) len esz n (.int kk (.ofNat m)) s k= @Bool.rec (fun _=>RX) .fail (cellF n c.toList (Nat.mul m esz) s k) (Nat.blt m len):=by
     simp only[indexK,idxV,idxI];cases Nat.blt m len<;>rfl
    rw[e];show Gd (if(0:Int)≤Int.ofNat m∧Int.ofNat m<(len:Int) then(partE n c.toList ((Int.ofNat m).toNat*esz)).map (·,σ) else none) _ _
    by_cases hb:m<len
    ·rw[blt_t hb,if_pos ⟨by simp only[Int.ofNat_eq_natCast];omega,by simp only[Int.ofNat_eq_natCast];omega⟩]
     exact cellF_ok h n c.toList _ k
    ·rw[blt_f hb];exact .no rfl
   |negSucc m=>exact .no rfl
  |_=>exact .no rfl
 |_=>exact .no rfl
theorem notK_ok {s:SF} {σ:Store} (h:SR s σ) (v:Value) (k:K):Gd (evI (.not (cs v)) .leaf σ) k (notK v s k):=by
 cases v with
 |bool b=>cases b<;>exact .yes rfl h
 |_=>exact .no rfl
theorem pick2_ok {s:SF} {σ:Store} (h:SR s σ) (v:Value) (g j:G) (e:E) (k:K):Gd (evI (.pick (cs v) (cs (g e)) (cs (j e))) .leaf σ) k (pick2 v g j e s k):=by
 cases v with
 |bool b=>cases b<;>exact .yes rfl h
 |_=>exact .no rfl
theorem newK_ok {s:SF} {σ:Store} (h:SR s σ) {o:FObj} {y:EObj} (ho:OR o y) (k:K):Gd (some (.pointer (some ⟨σ.size,0,none⟩),σ.alloc y)) k (newK o s k):= .new h ho (f:=fun b=> .pointer (some ⟨b,0,none⟩)) rfl
theorem fill_ok {e:E} {a:Env} (hR:R e a):∀(ps:Parts) (c c':List Value),fill ps e c=some c'→fillE c (ps.map fun(o,n,x)=>(o,n,a.eval x))=some c'
 | [],c,c',h=>h
 |(o,n,x)::r,c,c',h=>by
  have e1:fill ((o,n,x)::r) e c= @Bool.rec (fun _=>Option (List Value)) none (@Option.rec (List Value) (fun _=>Option (List Value)) none (fun c=>fill r e c) (splice o c (vcl (eeval x e)))) (Nat.beq (lenL (vcl (eeval x e))) n):=by
   show @Bool.rec (fun _=>List Value→Nat→(E→List Value→Option (List Value))→E→List Value→Option (List Value)) _ _ (Nat.beq (lenL (vcl (eeval x e))) n) _ _ _ _ _=_
   cases Nat.beq (lenL (vcl (eeval x e))) n with
   |false=>rfl
   |true=>cases hs:splice o c (vcl (eeval x e))<;>simp only[hs]<;>rfl
  rw[e1,eeval_ok hR,vcl_eq,lenL_eq] at h;simp only[List.map_cons,fillE];by_cases hl:(vcells (a.eval x)).length=n
  ·rw[hl,Nat.beq_refl] at h
   simp only[splice_eq,hl] at h;by_cases hb:o+n≤c.length
   ·rw[if_pos hb] at h
    rw[if_pos ⟨hl,hb⟩];exact fill_ok hR r _ _ h
   ·rw[if_neg hb] at h;cases h
  ·rw[beq_f hl] at h;cases h
theorem pureK_ok {s:SF} {σ:Store} (h:SR s σ) {op:I} (hp:evI op .leaf σ=(evI op .leaf Store.empty).map fun p=>(p.1,σ)) (k:K):Gd (evI op .leaf σ) k (pureK op s k):=by
 rw[hp];unfold pureK;cases evI op .leaf Store.empty with
 |none=>exact .no rfl
 |some p=>exact .yes rfl h
theorem pure_peq {ks:List CK} {n:Bool} {x y:Operand} {a:Env} {σ:Store}:evI (.peq ks n x y) a σ=(evI (.peq ks n x y) a Store.empty).map fun p=>(p.1,σ):=by
 simp only[evI];split<;>first|rfl|(simp only[Option.map_map];rfl)
theorem pure_beq {n:Bool} {x y:Operand} {a:Env} {σ:Store}:evI (.beq n x y) a σ=(evI (.beq n x y) a Store.empty).map fun p=>(p.1,σ):=by
 simp only[evI];split<;>rfl
theorem pure_nileq {kk:NK} {n:Bool} {x:Operand} {a:Env} {σ:Store}:evI (.nileq kk n x) a σ=(evI (.nileq kk n x) a Store.empty).map fun p=>(p.1,σ):=by
 simp only[evI,Option.map_map];rfl
theorem pure_neg {x:Operand} {a:Env} {σ:Store}:evI (.neg x) a σ=(evI (.neg x) a Store.empty).map fun p=>(p.1,σ):=by
 simp only[evI];split<;>rfl
theorem pure_conv {kk:IntKind} {x:Operand} {a:Env} {σ:Store}:evI (.conv kk x) a σ=(evI (.conv kk x) a Store.empty).map fun p=>(p.1,σ):=by
 simp only[evI];split<;>rfl
theorem pure_indexStr {x y:Operand} {a:Env} {σ:Store}:evI (.indexStr x y) a σ=(evI (.indexStr x y) a Store.empty).map fun p=>(p.1,σ):=by
 simp only[evI];repeat' split
 all_goals rfl
theorem pure_slcA {len esz:Nat} {x:Operand} {lo hi m:Option Operand} {a:Env} {σ:Store}:evI (.slcA len esz x lo hi m) a σ=(evI (.slcA len esz x lo hi m) a Store.empty).map fun p=>(p.1,σ):=by
 simp only[evI];repeat' split
 all_goals first|rfl|(simp only[Option.map_map];rfl)
theorem pure_slcStr {x:Operand} {lo hi:Option Operand} {a:Env} {σ:Store}:evI (.slcStr x lo hi) a σ=(evI (.slcStr x lo hi) a Store.empty).map fun p=>(p.1,σ):=by
 simp only[evI];repeat' split
 all_goals rfl
theorem pure_lenStr {x:Operand} {a:Env} {σ:Store}:evI (.lenStr x) a σ=(evI (.lenStr x) a Store.empty).map fun p=>(p.1,σ):=by
 simp only[evI];split<;>rfl
theorem pure_strOf {x:Operand} {a:Env} {σ:Store}:evI (.strOf x) a σ=(evI (.strOf x) a Store.empty).map fun p=>(p.1,σ):=by
 simp only[evI];split<;>rfl
theorem pure_mx {l:List Operand} {a:Env} {σ:Store}:evI (.mx l) a σ=(evI (.mx l) a Store.empty).map fun p=>(p.1,σ):=by
 simp only[evI];split<;>first|rfl|(simp only[Option.map_map];rfl)
theorem pure_mn {l:List Operand} {a:Env} {σ:Store}:evI (.mn l) a σ=(evI (.mn l) a Store.empty).map fun p=>(p.1,σ):=by
 simp only[evI];split<;>first|rfl|(simp only[Option.map_map];rfl)
theorem mapF_ok {s:SF} {σ:Store} (h:SR s σ) (m:Value) {p:List MapEntry×Nat} (hp:mapF s m=some p):mapOf σ m=some p:=by
 cases m with
 |map r=>cases r with
  |none=>exact hp
  |some r=>
   simp only[mapF] at hp;cases hg:sget r s with
   |none=>rw[hg] at hp;cases hp
   |some o=>
    rw[hg] at hp;obtain⟨y,hy,ho⟩:=h.ob _ _ hg;simp only[mapOf,hy];cases ho with
    |map es c=>exact hp
    |_=>cases hp
 |_=>cases hp
theorem lookK_ok {s:SF} {σ:Store} (h:SR s σ) (ks:Bool×List CK) (z:List Value) (g ok:Bool) (m key:Value) (k:K):Gd (evI (.look ks z g ok (cs m) (cs key)) .leaf σ) k (lookK ks z g ok m key s k):=by
 unfold lookK;cases hm:mapF s m with
 |none=>exact .no rfl
 |some p=>
  obtain⟨es,c⟩:=p;have:=mapF_ok h m hm
  cases h1:(keyEq ks key key).isNone with
  |true=>simp only[evI,Env.eval,cs,this,h1,if_true];exact .no rfl
  |false=>
   simp only[evI,Env.eval,cs,this,h1,Bool.false_eq_true,if_false];cases findE ks key es with
   |none=>exact .no rfl
   |some q=>cases q<;>exact .yes rfl h
theorem mget {s:SF} {σ:Store} (h:SR s σ) {r:Nat} {es:List MapEntry} {c:Nat} (hg:sget r s=some (.map es c)):σ.get r=some (.map es c):=by
 obtain⟨y,hy,ho⟩:=h.ob _ _ hg;cases ho;exact hy
theorem mupdK_ok {s:SF} {σ:Store} (h:SR s σ) (ks:Bool×List CK) (m key v:Value) (k:K):Gd (evI (.mupd ks (cs m) (cs key) (cs v)) .leaf σ) k (mupdK ks m key v s k):=by
 cases m with
 |map r=>cases r with
  |none=>exact .no rfl
  |some r=>
   simp only[mupdK];cases hg:sget r s with
   |none=>exact .no rfl
   |some o=>cases o with
    |map es c=>
     have hy:=mget h hg;cases h1:(keyEq ks key key).isNone with
     |true=>simp only[evI,Env.eval,cs,hy,h1,if_true];exact .no rfl
     |false=>
      simp only[evI,Env.eval,cs,hy,h1,Bool.false_eq_true,if_false];cases findE ks key es with
      |none=>exact .no rfl
      |some q=>cases q<;>exact .yes rfl (h.set hg (.map _ _))
    |_=>exact .no rfl
 |_=>exact .no rfl
theorem mentK_ok {s:SF} {σ:Store} (h:SR s σ) (ks:Bool×List CK) (z:List Value) (g:Bool) (m key:Value) (k:K):Gd (evI (.ment ks z g (cs m) (cs key)) .leaf σ) k (mentK ks z g m key s k):=by
 cases m with
 |map r=>cases r with
  |none=>exact .no rfl
  |some r=>
   simp only[mentK];cases hg:sget r s with
   |none=>exact .no rfl
   |some o=>cases o with
    |map es c=>
     have hy:=mget h hg;cases h1:(keyEq ks key key).isNone with
     |true=>simp only[evI,Env.eval,cs,hy,h1,if_true];exact .no rfl
     |false=>
      simp only[evI,Env.eval,cs,hy,h1,Bool.false_eq_true,if_false];cases findE ks key es with
      |none=>exact .no rfl
      |some q=>cases q with
       |none=>exact .yes rfl (h.set hg (.map _ _))
       |some e=>exact .yes rfl h
    |_=>exact .no rfl
 |_=>exact .no rfl
theorem mestK_ok {s:SF} {σ:Store} (h:SR s σ) (m t v:Value) (k:K):Gd (evI (.mest (cs m) (cs t) (cs v)) .leaf σ) k (mestK m t v s k):=by
 cases m with
 |map r=>cases r with
  |none=>cases t<;>exact .no rfl
  |some r=>cases t with
   |int kk b=>
    simp only[mestK];cases hg:sget r s with
    |none=>exact .no rfl
    |some o=>cases o with
     |map es c=>
      have hy:=mget h hg;simp only[evI,Env.eval,cs,hy];cases es.findIdx? (fun e=>(e.born:Int)==b) with
      |none=>exact .no rfl
      |some i=>exact .yes rfl (h.set hg (.map _ _))
     |_=>exact .no rfl
   |_=>exact .no rfl
 |_=>cases t<;>exact .no rfl
theorem lenMK_ok {s:SF} {σ:Store} (h:SR s σ) (m:Value) (k:K):Gd (evI (.lenM (cs m)) .leaf σ) k (lenMK m s k):=by
 unfold lenMK;cases hm:mapF s m with
 |none=>exact .no rfl
 |some p=>
  have:=mapF_ok h m hm
  simp only[evI,Env.eval,cs,this];exact .yes rfl h
theorem slcSK_ok {s:SF} {σ:Store} (h:SR s σ) (e:TypeId) (esz:Nat) (x:Value) (lo hi m:Option Operand) (a:Env) (k:K):Gd (match x with
  | .slice p len cap=>if cap=INF∧elemAt σ p≠some e then none else(sliceE esz p len cap (lo.map a.eval) (hi.map a.eval) (m.map a.eval)).map (·,σ)
  |_=>none) k (slcSK e esz x (lo.map a.eval) (hi.map a.eval) (m.map a.eval) s k):=by
 cases x with
 |slice p len cap=>
  simp only[slcSK];by_cases h1:cap=INF∧elemF s p≠some e
  ·rw[if_pos h1];exact .no rfl
  ·rw[if_neg h1]
   have:¬(cap=INF∧elemAt σ p≠some e):=by
    intro⟨h2,h3⟩
    refine h1 ⟨h2,fun h4=>h3 ?_⟩
    cases p with
    |none=>cases h4
    |some p=>
     simp only[elemF] at h4;cases hg:sget p.block s with
     |none=>rw[hg] at h4;cases h4
     |some o=>
      rw[hg] at h4;obtain⟨y,hy,ho⟩:=h.ob _ _ hg;simp only[elemAt,hy];cases ho with
      |cells st el c=>exact h4
      |_=>cases h4
   rw[if_neg this];exact retK_ok h _ k
 |_=>exact .no rfl
theorem srcF_ok {s:SF} {σ:Store} (h:SR s σ) (esz n:Nat) (p:Option Addr) {l:List Value} (hl:srcF s esz n p=some l):srcE σ esz n p=some l:=by
 cases p with
 |none=>exact hl
 |some b=>
  simp only[srcF] at hl;cases hg:sget b.block s with
  |none=>rw[hg] at hl;cases hl
  |some o=>
   rw[hg] at hl;obtain⟨y,hy,ho⟩:=h.ob _ _ hg;simp only[srcE,hy];cases ho with
   |cells st el c=>exact hl
   |_=>cases hl
theorem appK_ok {s:SF} {σ:Store} (h:SR s σ) (t:TypeId) (esz bytes:Nat) (v x:Value) (k:K):Gd (app σ t esz bytes v x) k (appK t esz bytes v x s k):=by
 cases v with
 |slice base sLen sCap=>cases x with
  |slice xb n xc=>
   simp only[appK,app];cases hs:srcF s esz n xb with
   |none=>exact .no rfl
   |some new=>
    rw[srcF_ok h _ _ _ hs];cases base with
    |none=>
     simp only
     by_cases h1:sLen=0∧sCap=0
     ·rw[if_pos h1,if_pos h1]
      by_cases h2:n=0
      ·rw[if_pos h2,if_pos h2];exact .yes rfl h
      ·rw[if_neg h2,if_neg h2]
       by_cases h3:n≤2^31∧bytes≤2^16
       ·rw[if_pos h3,if_pos h3];exact .new h (.cells _ _ _) (f:=fun b=> .slice (some ⟨b,0,none⟩) n INF) rfl
       ·rw[if_neg h3,if_neg h3];exact .no rfl
     ·rw[if_neg h1,if_neg h1];exact .no rfl
    |some a=>
     simp only
     cases hg:sget a.block s with
     |none=>exact .no rfl
     |some o=>
      obtain⟨y,hy,ho⟩:=h.ob _ _ hg;cases ho with
      |cells st e c=>
       simp only[hy];by_cases h1:a.off+sLen*esz≤c.length
       ·rw[if_pos h1,if_pos h1]
        by_cases h2:n=0
        ·rw[if_pos h2,if_pos h2];exact .yes rfl h
        ·rw[if_neg h2,if_neg h2]
         have hst:∀(l c':Nat),Gd ((storeE σ ⟨a.block,a.off+sLen*esz,none⟩ new).map fun σ'=>(.slice (some a) l c',σ')) k (storeA (some ⟨a.block,a.off+sLen*esz,none⟩) new s (fun s=>k (.slice (some a) l c') s)):=by
          intro l c' hn;obtain⟨s',σ',e1,e2,e3⟩:=storeA_ok h _ _ _ hn;exact⟨_,s',σ',by rw[e1];rfl,e2,e3⟩
         by_cases h3:sCap=INF
         ·rw[if_pos h3,if_pos h3]
          by_cases h4:e=t∧st= .grow
          ·rw[if_pos h4,if_pos h4]
           by_cases h5:a.off+(sLen+n)*esz≤c.length
           ·rw[if_pos h5,if_pos h5];exact hst _ _
           ·rw[if_neg h5,if_neg h5]
            by_cases h6:sLen+n≤2^31∧bytes≤2^16∧new.all oneC
            ·rw[if_pos h6,if_pos h6]
             refine .new (h.set hg .dead) (.cells _ _ _) (f:=fun b=> .slice (some ⟨b,0,none⟩) (sLen+n) INF) ?_
             have:(σ.set a.block .dead).size=σ.size:=rfl
             rw[this]
            ·rw[if_neg h6,if_neg h6];exact .no rfl
          ·rw[if_neg h4,if_neg h4];exact .no rfl
         ·rw[if_neg h3,if_neg h3]
          by_cases h4:sLen+n≤sCap
          ·rw[if_pos h4,if_pos h4];exact hst _ _
          ·rw[if_neg h4,if_neg h4]
           by_cases h5:sLen+n≤2^31∧bytes≤2^16
           ·rw[if_pos h5,if_pos h5];exact .new h (.cells _ _ _) (f:=fun b=> .slice (some ⟨b,0,none⟩) (sLen+n) INF) rfl
           ·rw[if_neg h5,if_neg h5];exact .no rfl
       ·rw[if_neg h1,if_neg h1];exact .no rfl
      |_=>exact .no rfl
  |_=>exact .no rfl
 |_=>exact .no rfl
theorem copyK_ok {s:SF} {σ:Store} (h:SR s σ) (esz:Nat) (d t:Value) (k:K):Gd (evI (.copy esz (cs d) (cs t)) .leaf σ) k (copyK esz d t s k):=by
 cases d with
 |slice db dl dc=>cases t with
  |slice sb sl sc=>
   simp only[copyK,evI,Env.eval,cs];cases hs:srcF s esz (min sl dl) sb with
   |none=>exact .no rfl
   |some new=>
    rw[srcF_ok h _ _ _ hs];cases db with
    |none=>
     simp only
     by_cases h1:min sl dl=0
     ·rw[if_pos h1,if_pos h1];exact .yes rfl h
     ·rw[if_neg h1,if_neg h1];exact .no rfl
    |some p=>
     simp only
     by_cases h1:min sl dl=0
     ·rw[if_pos h1,if_pos h1];exact .yes rfl h
     ·rw[if_neg h1,if_neg h1]
      intro hn;obtain⟨s',σ',e1,e2,e3⟩:=storeA_ok h _ _ _ hn;exact⟨_,s',σ',by rw[e1];rfl,e2,e3⟩
  |_=>exact .no rfl
 |_=>cases t<;>exact .no rfl
theorem mksK_ok {s:SF} {σ:Store} (h:SR s σ) (t:TypeId) (esz bytes:Nat) (z:List Value) (l c:Value) (k:K):Gd (evI (.mks t esz bytes z (cs l) (cs c)) .leaf σ) k (mksK t esz bytes z l c s k):=by
 cases l with
 |int k1 n=>cases c with
  |int k2 m=>
   simp only[mksK,evI,Env.eval,cs];split
   ·exact .new h (.cells _ _ _) (f:=fun b=> .slice (some ⟨b,0,none⟩) n.toNat n.toNat) rfl
   ·exact .no rfl
  |_=>exact .no rfl
 |_=>cases c<;>exact .no rfl
theorem rngK_ok {s:SF} {σ:Store} (h:SR s σ) (v:Value) (k:K):Gd (evI (.rngStr (cs v)) .leaf σ) k (rngK v s k):=by
 cases v with
 |string t=>exact newK_ok h (.iter _ _) k
 |_=>exact .no rfl
theorem nxtK_ok {s:SF} {σ:Store} (h:SR s σ) (v:Value) (k:K):Gd (evI (.nxtStr (cs v)) .leaf σ) k (nxtK v s k):=by
 unfold nxtK;split
 ·rename_i r
  cases hg:sget r s with
  |none=>exact .no rfl
  |some o=>
   obtain⟨y,hy,ho⟩:=h.ob _ _ hg;cases ho with
   |iter t pos=>
    simp only[evI,Env.eval,cs,hy];by_cases h1:pos<t.size
    ·rw[if_pos h1,if_pos h1];exact .yes rfl (h.set hg (.iter _ _))
    ·rw[if_neg h1,if_neg h1];exact .yes rfl h
   |_=>exact .no rfl
 ·exact .no rfl
def CS (C':CF) (C:Caller):Prop:=∀f args s σ v s',SR s σ→C' f args s= .val v s'→∃σ',C f args σ=some (v,σ')∧SR s' σ'
theorem retC_ok {C':CF} {C:Caller} (hC:CS C' C) {s:SF} {σ:Store} (h:SR s σ) (f:Callee) (args:List Value) (k:K):Gd (C f args σ) k (retC (C' f args s) k):=by
 cases hr:C' f args s with
 |fail=>exact .no rfl
 |val v s'=>
  obtain⟨σ',h1,h2⟩:=hC _ _ _ _ _ _ h hr;exact fun _=> ⟨v,s',σ',h1,h2,rfl⟩
theorem callK_ok {C':CF} {C:Caller} (hC:CS C' C) {s:SF} {σ:Store} (h:SR s σ) (f:Value) (args:List Value) (k:K):Gd (evCallV C f args σ) k (callK f C' args s k):=by
 cases f with
 |func g x y=>cases g with
  |func g=>
   show Gd (C (.func g) (x.toList++args++y.toList) σ) k (retC (C' (.func g) (appL x.toList (appL args y.toList)) s) k)
   rw[appL_eq,appL_eq,List.append_assoc];exact retC_ok hC h _ _ k
  |yield l=>
   obtain⟨xl⟩:=x;cases xl with
   |nil=>exact retC_ok hC h _ _ k
   |cons z r=>exact .no rfl
  |_=>exact .no rfl
 |_=>exact .no rfl
def evX (dr:Bool) (C:Caller) (b:Nat) (op:I) (a:Env) (σ:Store):Option (Value×Store):=bif dr then evOpD C b op a σ else evOp C op a σ
theorem oev_ok {e:E} {a:Env} (h:R e a) (x:Option Operand):oev x e=x.map a.eval:=by
 cases x with
 |none=>rfl
 |some x=>show some (eeval x e)=_;rw[eeval_ok h];rfl
theorem ocs (x:Option Value):(x.map cs).map (Env.eval .leaf)=x:=by cases x<;>rfl
theorem lcs (l:List Value):(l.map cs).map (Env.eval .leaf)=l:=by
 induction l with
 |nil=>rfl
 |cons x r ih=>simp only[List.map_cons,ih];rfl
theorem stepOf_ok {dr:Bool} {X:XC} {C:Caller} (hC:CS X.c C) {e:E} {a:Env} (hR:R e a) {s:SF} {σ:Store} (h:SR s σ) (op:I) (nx:NX):Gd (evX dr C X.b op a σ) (nx X e) ((stepOf dr op nx).run X e s):=by
 cases op with
 |mov x=>
  have e1:evX dr C X.b (.mov x) a σ=evI (.mov x) a σ:=by cases dr<;>rfl
  rw[e1];show Gd _ _ (nx X e ((opnd x).g e) s)
  rw[opnd_ok hR x];exact .yes rfl h
 |pick c x y=>
  have e1:evX dr C X.b (.pick c x y) a σ=evI (.pick c x y) a σ:=by cases dr<;>rfl
  rw[e1];show Gd _ _ (pick2 ((opnd c).g e) (opnd x).g (opnd y).g e s (nx X e))
  rw[opnd_ok hR c];have:=pick2_ok h (a.eval c) (opnd x).g (opnd y).g e (nx X e)
  rw[opnd_ok hR x,opnd_ok hR y] at this;exact this
 |bin op x y=>
  have e1:evX dr C X.b (.bin op x y) a σ=evI (.bin op x y) a σ:=by cases dr<;>rfl
  rw[e1];show Gd _ _ ((binF op).f ((opnd x).g e) ((opnd y).g e) s (nx X e))
  rw[opnd_ok hR x,opnd_ok hR y];exact binK_ok h op _ _ _
 |beq n x y=>
  have e1:evX dr C X.b (.beq n x y) a σ=evI (.beq n x y) a σ:=by cases dr<;>rfl
  rw[e1];show Gd _ _ (pureK (.beq n (cs ((opnd x).g e)) (cs ((opnd y).g e))) s (nx X e))
  rw[opnd_ok hR x,opnd_ok hR y];exact pureK_ok h pure_beq _
 |peq ks n x y=>
  have e1:evX dr C X.b (.peq ks n x y) a σ=evI (.peq ks n x y) a σ:=by cases dr<;>rfl
  rw[e1];show Gd _ _ (pureK (.peq ks n (cs ((opnd x).g e)) (cs ((opnd y).g e))) s (nx X e))
  rw[opnd_ok hR x,opnd_ok hR y];exact pureK_ok h pure_peq _
 |nileq kk n x=>
  have e1:evX dr C X.b (.nileq kk n x) a σ=evI (.nileq kk n x) a σ:=by cases dr<;>rfl
  rw[e1];show Gd _ _ (pureK (.nileq kk n (cs ((opnd x).g e))) s (nx X e))
  rw[opnd_ok hR x];exact pureK_ok h pure_nileq _
 |not x=>
  have e1:evX dr C X.b (.not x) a σ=evI (.not x) a σ:=by cases dr<;>rfl
  rw[e1];show Gd _ _ (notK ((opnd x).g e) s (nx X e))
  rw[opnd_ok hR x];exact notK_ok h _ _
 |neg x=>
  have e1:evX dr C X.b (.neg x) a σ=evI (.neg x) a σ:=by cases dr<;>rfl
  rw[e1];show Gd _ _ (pureK (.neg (cs ((opnd x).g e))) s (nx X e))
  rw[opnd_ok hR x];exact pureK_ok h pure_neg _
 |conv kk x=>
  have e1:evX dr C X.b (.conv kk x) a σ=evI (.conv kk x) a σ:=by cases dr<;>rfl
  rw[e1];show Gd _ _ (pureK (.conv kk (cs ((opnd x).g e))) s (nx X e))
  rw[opnd_ok hR x];exact pureK_ok h pure_conv _
 |alloc t z=>
  have e1:evX dr C X.b (.alloc t z) a σ=evI (.alloc t z) a σ:=by cases dr<;>rfl
  rw[e1];exact newK_ok h (.cells _ _ _) _
 |box t x=>
  have e1:evX dr C X.b (.box t x) a σ=evI (.box t x) a σ:=by cases dr<;>rfl
  rw[e1];show Gd _ _ (newK (.cells .rw t (vcl ((opnd x).g e))) s (nx X e))
  rw[opnd_ok hR x,vcl_eq];exact newK_ok h (.cells _ _ _) _
 |build z ps=>
  have e1:evX dr C X.b (.build z ps) a σ=evI (.build z ps) a σ:=by cases dr<;>rfl
  rw[e1];show Gd _ _ (aggK (fill ps e z) s (nx X e))
  cases hf:fill ps e z with
  |none=>exact .no rfl
  |some c=>
   have:evI (.build z ps) a σ=some (.agg c.toArray,σ):=by simp only[evI,fill_ok hR ps z c hf];rfl
   rw[this];exact .yes rfl h
 |bslice t n len z ps=>
  have e1:evX dr C X.b (.bslice t n len z ps) a σ=evI (.bslice t n len z ps) a σ:=by cases dr<;>rfl
  rw[e1];show Gd _ _ (bslK (fill ps e z) t len s (nx X e))
  cases hf:fill ps e z with
  |none=>exact .no rfl
  |some c=>
   have:evI (.bslice t n len z ps) a σ=some (.slice (some ⟨σ.size,0,none⟩) len len,σ.alloc (.cells .rw t c)):=by simp only[evI,fill_ok hR ps z c hf];rfl
   rw[this];exact .new h (.cells _ _ _) (f:=fun b=> .slice (some ⟨b,0,none⟩) len len) rfl
 |load n x=>
  have e1:evX dr C X.b (.load n x) a σ=evI (.load n x) a σ:=by cases dr<;>rfl
  rw[e1];cases n with
  |none=>
   show Gd _ _ (load1K ((opnd x).g e) s (nx X e))
   rw[opnd_ok hR x];exact load1K_ok h _ _
  |some n=>
   show Gd _ _ (loadK ((opnd x).g e) (some n) s (nx X e))
   rw[opnd_ok hR x];exact loadK_ok h _ _ _
 |store n x v=>
  have e1:evX dr C X.b (.store n x v) a σ=evI (.store n x v) a σ:=by cases dr<;>rfl
  rw[e1];show Gd _ _ (storeK ((opnd x).g e) n (vcl ((opnd v).g e)) s (nx X e))
  rw[opnd_ok hR x,opnd_ok hR v];exact storeK_ok h _ _ _ _
 |nilc x=>
  have e1:evX dr C X.b (.nilc x) a σ=evI (.nilc x) a σ:=by cases dr<;>rfl
  rw[e1];show Gd _ _ (nilcK ((opnd x).g e) s (nx X e))
  rw[opnd_ok hR x];exact nilcK_ok h _ _
 |addOff x o=>
  have e1:evX dr C X.b (.addOff x o) a σ=evI (.addOff x o) a σ:=by cases dr<;>rfl
  rw[e1];cases o with
  |zero=>
   show Gd _ _ (nilpK ((opnd x).g e) s (nx X e))
   rw[opnd_ok hR x];exact nilpK_ok h _ _
  |succ o=>
   show Gd _ _ (addK ((opnd x).g e) (o+1) s (nx X e))
   rw[opnd_ok hR x];exact addK_ok h _ _ _
 |field o n x=>
  have e1:evX dr C X.b (.field o n x) a σ=evI (.field o n x) a σ:=by cases dr<;>rfl
  rw[e1];show Gd _ _ (fieldK ((opnd x).g e) o n s (nx X e))
  rw[opnd_ok hR x];exact fieldK_ok h _ _ _ _
 |idxS esz x i=>
  have e1:evX dr C X.b (.idxS esz x i) a σ=evI (.idxS esz x i) a σ:=by cases dr<;>rfl
  rw[e1];show Gd _ _ (idxSK ((opnd x).g e) esz ((opnd i).g e) s (nx X e))
  rw[opnd_ok hR x,opnd_ok hR i];exact idxSK_ok h _ _ _ _
 |idxA len esz x i=>
  have e1:evX dr C X.b (.idxA len esz x i) a σ=evI (.idxA len esz x i) a σ:=by cases dr<;>rfl
  rw[e1];show Gd _ _ (idxAK ((opnd x).g e) len esz ((opnd i).g e) s (nx X e))
  rw[opnd_ok hR x,opnd_ok hR i];exact idxAK_ok h _ _ _ _ _
 |index len esz n x i=>
  have e1:evX dr C X.b (.index len esz n x i) a σ=evI (.index len esz n x i) a σ:=by cases dr<;>rfl
  rw[e1];show Gd _ _ (indexK ((opnd x).g e) len esz n ((opnd i).g e) s (nx X e))
  rw[opnd_ok hR x,opnd_ok hR i];exact indexK_ok h _ _ _ _ _ _
 |indexStr x i=>
  have e1:evX dr C X.b (.indexStr x i) a σ=evI (.indexStr x i) a σ:=by cases dr<;>rfl
  rw[e1];show Gd _ _ (pureK (.indexStr (cs ((opnd x).g e)) (cs ((opnd i).g e))) s (nx X e))
  rw[opnd_ok hR x,opnd_ok hR i];exact pureK_ok h pure_indexStr _
 |slcS t esz x lo hi m=>
  have e1:evX dr C X.b (.slcS t esz x lo hi m) a σ=evI (.slcS t esz x lo hi m) a σ:=by cases dr<;>rfl
  rw[e1];show Gd _ _ (slcSK t esz ((opnd x).g e) (oev lo e) (oev hi e) (oev m e) s (nx X e))
  rw[opnd_ok hR x,oev_ok hR lo,oev_ok hR hi,oev_ok hR m];exact slcSK_ok h _ _ _ _ _ _ _ _
 |slcA len esz x lo hi m=>
  have e1:evX dr C X.b (.slcA len esz x lo hi m) a σ=evI (.slcA len esz x lo hi m) a σ:=by cases dr<;>rfl
  rw[e1];show Gd _ _ (pureK (.slcA len esz (cs ((opnd x).g e)) ((oev lo e).map cs) ((oev hi e).map cs) ((oev m e).map cs)) s (nx X e))
  rw[opnd_ok hR x,oev_ok hR lo,oev_ok hR hi,oev_ok hR m];have e2:evI (.slcA len esz x lo hi m) a σ=evI (.slcA len esz (cs (a.eval x)) ((lo.map a.eval).map cs) ((hi.map a.eval).map cs) ((m.map a.eval).map cs)) .leaf σ:=by
   simp only[evI,ocs];rfl
  rw[e2];exact pureK_ok h pure_slcA _
 |slcStr x lo hi=>
  have e1:evX dr C X.b (.slcStr x lo hi) a σ=evI (.slcStr x lo hi) a σ:=by cases dr<;>rfl
  rw[e1];show Gd _ _ (pureK (.slcStr (cs ((opnd x).g e)) ((oev lo e).map cs) ((oev hi e).map cs)) s (nx X e))
  rw[opnd_ok hR x,oev_ok hR lo,oev_ok hR hi];have e2:evI (.slcStr x lo hi) a σ=evI (.slcStr (cs (a.eval x)) ((lo.map a.eval).map cs) ((hi.map a.eval).map cs)) .leaf σ:=by
   simp only[evI,ocs];rfl
  rw[e2];exact pureK_ok h pure_slcStr _
 |ext x i=>
  have e1:evX dr C X.b (.ext x i) a σ=evI (.ext x i) a σ:=by cases dr<;>rfl
  rw[e1];show Gd _ _ (extK ((opnd x).g e) i s (nx X e))
  rw[opnd_ok hR x];exact extK_ok h _ _ _
 |mkf f fs cs=>
  have e1:evX dr C X.b (.mkf f fs cs) a σ=evI (.mkf f fs cs) a σ:=by cases dr<;>rfl
  rw[e1];show Gd _ _ (nx X e (.func (.func f) ⟨evalL fs e⟩ ⟨evalL cs e⟩) s)
  rw[evalL_ok hR fs,evalL_ok hR cs];exact .yes rfl h
 |mks t n b z l c=>
  have e1:evX dr C X.b (.mks t n b z l c) a σ=evI (.mks t n b z l c) a σ:=by cases dr<;>rfl
  rw[e1];show Gd _ _ (mksK t n b z ((opnd l).g e) ((opnd c).g e) s (nx X e))
  rw[opnd_ok hR l,opnd_ok hR c];exact mksK_ok h _ _ _ _ _ _ _
 |mkm=>
  have e1:evX dr C X.b (.mkm) a σ=evI (.mkm) a σ:=by cases dr<;>rfl
  rw[e1];exact .new h (.map _ _) (f:=fun b=> .map (some b)) rfl
 |look ks z gg ok m key=>
  have e1:evX dr C X.b (.look ks z gg ok m key) a σ=evI (.look ks z gg ok m key) a σ:=by cases dr<;>rfl
  rw[e1];show Gd _ _ (lookK ks z gg ok ((opnd m).g e) ((opnd key).g e) s (nx X e))
  rw[opnd_ok hR m,opnd_ok hR key];exact lookK_ok h _ _ _ _ _ _ _
 |mupd ks m key v=>
  have e1:evX dr C X.b (.mupd ks m key v) a σ=evI (.mupd ks m key v) a σ:=by cases dr<;>rfl
  rw[e1];show Gd _ _ (mupdK ks ((opnd m).g e) ((opnd key).g e) ((opnd v).g e) s (nx X e))
  rw[opnd_ok hR m,opnd_ok hR key,opnd_ok hR v];exact mupdK_ok h _ _ _ _ _
 |ment ks z gg m key=>
  have e1:evX dr C X.b (.ment ks z gg m key) a σ=evI (.ment ks z gg m key) a σ:=by cases dr<;>rfl
  rw[e1];show Gd _ _ (mentK ks z gg ((opnd m).g e) ((opnd key).g e) s (nx X e))
  rw[opnd_ok hR m,opnd_ok hR key];exact mentK_ok h _ _ _ _ _ _
 |mest m t v=>
  have e1:evX dr C X.b (.mest m t v) a σ=evI (.mest m t v) a σ:=by cases dr<;>rfl
  rw[e1];show Gd _ _ (mestK ((opnd m).g e) ((opnd t).g e) ((opnd v).g e) s (nx X e))
  rw[opnd_ok hR m,opnd_ok hR t,opnd_ok hR v];exact mestK_ok h _ _ _ _
 |lenS x=>
  have e1:evX dr C X.b (.lenS x) a σ=evI (.lenS x) a σ:=by cases dr<;>rfl
  rw[e1];show Gd _ _ (lenK ((opnd x).g e) s (nx X e))
  rw[opnd_ok hR x];exact lenK_ok h _ _
 |lenStr x=>
  have e1:evX dr C X.b (.lenStr x) a σ=evI (.lenStr x) a σ:=by cases dr<;>rfl
  rw[e1];show Gd _ _ (pureK (.lenStr (cs ((opnd x).g e))) s (nx X e))
  rw[opnd_ok hR x];exact pureK_ok h pure_lenStr _
 |lenM x=>
  have e1:evX dr C X.b (.lenM x) a σ=evI (.lenM x) a σ:=by cases dr<;>rfl
  rw[e1];show Gd _ _ (lenMK ((opnd x).g e) s (nx X e))
  rw[opnd_ok hR x];exact lenMK_ok h _ _
 |const v=>
  have e1:evX dr C X.b (.const v) a σ=evI (.const v) a σ:=by cases dr<;>rfl
  rw[e1];exact .yes rfl h
 |mx l=>
  have e1:evX dr C X.b (.mx l) a σ=evI (.mx l) a σ:=by cases dr<;>rfl
  rw[e1];show Gd _ _ (pureK (.mx ((evalL l e).map cs)) s (nx X e))
  rw[evalL_ok hR l];have e2:evI (.mx l) a σ=evI (.mx ((l.map a.eval).map cs)) .leaf σ:=by simp only[evI,lcs]
  rw[e2];exact pureK_ok h pure_mx _
 |mn l=>
  have e1:evX dr C X.b (.mn l) a σ=evI (.mn l) a σ:=by cases dr<;>rfl
  rw[e1];show Gd _ _ (pureK (.mn ((evalL l e).map cs)) s (nx X e))
  rw[evalL_ok hR l];have e2:evI (.mn l) a σ=evI (.mn ((l.map a.eval).map cs)) .leaf σ:=by simp only[evI,lcs]
  rw[e2];exact pureK_ok h pure_mn _
 |app t n b x y=>
  have e1:evX dr C X.b (.app t n b x y) a σ=evI (.app t n b x y) a σ:=by cases dr<;>rfl
  rw[e1];show Gd _ _ (appK t n b ((opnd x).g e) ((opnd y).g e) s (nx X e))
  rw[opnd_ok hR x,opnd_ok hR y];exact appK_ok h _ _ _ _ _ _
 |copy n d x=>
  have e1:evX dr C X.b (.copy n d x) a σ=evI (.copy n d x) a σ:=by cases dr<;>rfl
  rw[e1];show Gd _ _ (copyK n ((opnd d).g e) ((opnd x).g e) s (nx X e))
  rw[opnd_ok hR d,opnd_ok hR x];exact copyK_ok h _ _ _ _
 |mki t x=>
  have e1:evX dr C X.b (.mki t x) a σ=evI (.mki t x) a σ:=by cases dr<;>rfl
  rw[e1];show Gd _ _ (nx X e (.iface t ((opnd x).g e)) s)
  rw[opnd_ok hR x];exact .yes rfl h
 |strOf x=>
  have e1:evX dr C X.b (.strOf x) a σ=evI (.strOf x) a σ:=by cases dr<;>rfl
  rw[e1];show Gd _ _ (pureK (.strOf (cs ((opnd x).g e))) s (nx X e))
  rw[opnd_ok hR x];exact pureK_ok h pure_strOf _
 |rngStr x=>
  have e1:evX dr C X.b (.rngStr x) a σ=evI (.rngStr x) a σ:=by cases dr<;>rfl
  rw[e1];show Gd _ _ (rngK ((opnd x).g e) s (nx X e))
  rw[opnd_ok hR x];exact rngK_ok h _ _
 |nxtStr x=>
  have e1:evX dr C X.b (.nxtStr x) a σ=evI (.nxtStr x) a σ:=by cases dr<;>rfl
  rw[e1];show Gd _ _ (nxtK ((opnd x).g e) s (nx X e))
  rw[opnd_ok hR x];exact nxtK_ok h _ _
 |call f args=>
  have e1:evX dr C X.b (.call f args) a σ=evCallV C (a.eval f) (args.map a.eval) σ:=by cases dr<;>rfl
  rw[e1];show Gd _ _ (callK ((opnd f).g e) X.c (evalL args e) s (nx X e))
  rw[opnd_ok hR f,evalL_ok hR args];exact callK_ok hC h _ _ _
 |pre m=>
  cases dr with
  |false=>exact .no rfl
  |true=>exact .yes rfl h
 |stop=>exact .no rfl
theorem eqB_eq (a b:Bool):eqB a b=(a==b):=by cases a<;>cases b<;>rfl
theorem wantQ_eq (v:Value) (w:Bool):wantQ v w=(match v with| .bool b=>b==w|_=>false):=by
 cases v with
 |bool b=>exact eqB_eq b w
 |_=>rfl
def nxX (trk:Bool) (o:EOp) (X:XC) (e:E) (v:Value) (s:SF):XC:=bif trk then⟨X.c,X.b,bif o.op.loud then X.h++ [s] else X.h,lookL o.win o.op e v X.ls,undefE⟩ else X
def skX (trk:Bool) (o:EOp) (X:XC) (s:SF):XC:=bif trk&&o.op.loud then⟨X.c,X.b,X.h++ [s],X.ls,undefE⟩ else X
theorem nx_ok {e:E} {a:Env} (hR:R e a) (trk:Bool) (o:EOp) (ih:Step) (X:XC) (v:Value) (s:SF) (hn:(nxOf trk o ih).f X e v s≠ .fail):∃e',R e' (a.put o.dst v)∧(nxOf trk o ih).f X e v s=ih.run (nxX trk o X e v s) e' s:=by
 obtain⟨d,op,g,w⟩:=o;cases d with
 |none=>exact⟨e,hR,by cases trk<;>cases hl:op.loud<;>(simp only[nxOf,nxX,hl];rfl)⟩
 |some d=>
  cases trk with
  |false=>
   obtain⟨e',h1,h2⟩:=R.put hR (d:=d) (v:=v) (s:=s) (c:=ih.run X) rfl hn
   exact⟨e',h2,h1⟩
  |true=>
   cases hl:op.loud with
   |true=>
    have e2:(nxOf true ⟨some d,op,g,w⟩ ih).f X e v s=(selE d).p v e s (fun e' s'=>ih.run ⟨X.c,X.b,X.h++ [s'],lookL w op e v X.ls,undefE⟩ e' s'):=by simp only[nxOf,hl];rfl
    rw[e2] at hn ⊢;obtain⟨e',h1,h2⟩:=R.put hR (d:=d) (v:=v) (s:=s) (c:=fun e' s'=>ih.run ⟨X.c,X.b,X.h++ [s'],lookL w op e v X.ls,undefE⟩ e' s') rfl hn
    refine⟨e',h2, ?_⟩
    rw[h1];simp only[nxX,hl];rfl
   |false=>
    have e2:(nxOf true ⟨some d,op,g,w⟩ ih).f X e v s=(selE d).p v e s (fun e' s'=>ih.run ⟨X.c,X.b,X.h,lookL w op e v X.ls,undefE⟩ e' s'):=by simp only[nxOf,hl];rfl
    rw[e2] at hn ⊢;obtain⟨e',h1,h2⟩:=R.put hR (d:=d) (v:=v) (s:=s) (c:=fun e' s'=>ih.run ⟨X.c,X.b,X.h,lookL w op e v X.ls,undefE⟩ e' s') rfl hn
    refine⟨e',h2, ?_⟩
    rw[h1];simp only[nxX,hl];rfl
theorem sk_ok {e:E} {a:Env} (hR:R e a) (trk:Bool) (o:EOp) (ih:Step) (X:XC) (s:SF) (hn:(skOf trk o ih).f X e s≠ .fail):∃e',R e' (a.put o.dst undefE)∧(skOf trk o ih).f X e s=ih.run (skX trk o X s) e' s:=by
 obtain⟨d,op,g,w⟩:=o;cases d with
 |none=>exact⟨e,hR,by cases hl:(trk&&op.loud)<;>(simp only[skOf,skX,hl];rfl)⟩
 |some d=>
  cases hl:(trk&&op.loud) with
  |true=>
   have e2:(skOf trk ⟨some d,op,g,w⟩ ih).f X e s=(selE d).p undefE e s (fun e' s'=>ih.run ⟨X.c,X.b,X.h++ [s'],X.ls,undefE⟩ e' s'):=by simp only[skOf,hl];rfl
   rw[e2] at hn ⊢;obtain⟨e',h1,h2⟩:=R.put hR (d:=d) (v:=undefE) (s:=s) (c:=fun e' s'=>ih.run ⟨X.c,X.b,X.h++ [s'],X.ls,undefE⟩ e' s') rfl hn
   refine⟨e',h2, ?_⟩
   rw[h1];simp only[skX,hl];rfl
  |false=>
   have e2:(skOf trk ⟨some d,op,g,w⟩ ih).f X e s=(selE d).p undefE e s (ih.run X):=by simp only[skOf,hl];rfl
   rw[e2] at hn ⊢;obtain⟨e',h1,h2⟩:=R.put hR (d:=d) (v:=undefE) (s:=s) (c:=ih.run X) rfl hn
   refine⟨e',h2, ?_⟩
   rw[h1];simp only[skX,hl];rfl
theorem stepC_ok {dr trk:Bool} {X:XC} {C:Caller} (hC:CS X.c C) {e:E} {a:Env} (hR:R e a) {s:SF} {σ:Store} (h:SR s σ) (o:EOp) (ih:Step) (hn:(stepC dr trk o ih).run X e s≠ .fail):
  (wanted o a=true∧∃v s' σ' e',evX dr C X.b o.op a σ=some (v,σ')∧SR s' σ'∧R e' (a.put o.dst v)∧(stepC dr trk o ih).run X e s=ih.run (nxX trk o X e v s') e' s')∨
  (wanted o a=false∧∃e',R e' (a.put o.dst undefE)∧(stepC dr trk o ih).run X e s=ih.run (skX trk o X s) e' s):=by
 have go:(stepOf dr o.op (nxOf trk o ih).f).run X e s≠ .fail→∃v s' σ' e',evX dr C X.b o.op a σ=some (v,σ')∧SR s' σ'∧R e' (a.put o.dst v)∧(stepOf dr o.op (nxOf trk o ih).f).run X e s=ih.run (nxX trk o X e v s') e' s':=by
  intro hn;obtain⟨v,s',σ',h1,h2,h3⟩:=stepOf_ok (dr:=dr) hC hR h o.op (nxOf trk o ih).f hn
  rw[h3] at hn;obtain⟨e',h4,h5⟩:=nx_ok hR trk o ih X v s' hn;exact⟨v,s',σ',e',h1,h2,h4,by rw[h3,h5]⟩
 cases hg:o.guard with
 |none=>
  have e1:(stepC dr trk o ih).run X e s=(stepOf dr o.op (nxOf trk o ih).f).run X e s:=by unfold stepC;rw[hg]
  rw[e1] at hn ⊢;exact .inl ⟨by unfold wanted;rw[hg],go hn⟩
 |some p=>
  obtain⟨t,w⟩:=p;have e1:(stepC dr trk o ih).run X e s=guK (wantQ ((selE t).g e) w) (stepOf dr o.op (nxOf trk o ih).f).run (skOf trk o ih).f X e s:=by unfold stepC;rw[hg]
  rw[e1] at hn ⊢;have e2:wantQ ((selE t).g e) w=wanted o a:=by
   have:(selE t).g e=a.get t:=hR t
   rw[this,wantQ_eq];unfold wanted;rw[hg];rfl
  rw[e2] at hn ⊢;cases hw:wanted o a with
  |true=>rw[hw] at hn;exact .inl ⟨rfl,go hn⟩
  |false=>
   rw[hw] at hn;exact .inr ⟨rfl,sk_ok hR trk o ih X s hn⟩
structure LR (l:LookF) (m:Look):Prop where
 op:l.op=m.op
 lk:l.op.looks=true
 e:R l.e m.env
 v:l.v=m.v
 lo:l.lo=m.lo
 hi:l.hi=m.hi
inductive Al {α β:Type} (p:α→β→Prop):List α→List β→Prop
 |nil:Al p [] []
 |cons {a:α} {b:β} {l:List α} {m:List β}:p a b→Al p l m→Al p (a::l) (b::m)
theorem Al.snoc {α β:Type} {p:α→β→Prop} {l:List α} {m:List β} {a:α} {b:β} (h:Al p l m) (ha:p a b):Al p (l++ [a]) (m++ [b]):=by
 induction h with
 |nil=>exact .cons ha .nil
 |cons h1 _ ih=>exact .cons h1 ih
theorem Al.get {α β:Type} {p:α→β→Prop} {l:List α} {m:List β} (h:Al p l m):∀{i:Nat} {a:α},l[i]?=some a→∃b,m[i]?=some b∧p a b:=by
 induction h with
 |nil=>intro i a h;simp at h
 |cons h1 _ ih=>
  intro i a h;cases i with
  |zero=>simp at h;subst h;exact⟨_,by simp,h1⟩
  |succ i=>simp at h;obtain⟨b,hb,hp⟩:=ih h;exact⟨b,by simpa using hb,hp⟩
theorem evX_look {C:Caller} {op:I} (h:op.looks=true) (a:Env) (σ:Store):evX false C 0 op a σ=evI op a σ:=by
 cases op<;>first|rfl|cases h
theorem isN_nf {r:RX} (h:isN r=true):r≠ .fail:=by intro e;subst e;cases h
theorem stabF_ok {h:List SF} {h':List Store} (hh:Al SR h h') {l:LookF} {m:Look} (hl:LR l m) (hs:stabF h l=true):stable h' m=true:=by
 unfold stabF at hs;unfold stable;rw[List.all_eq_true] at hs ⊢;intro i hi;rw[←hl.hi,←hl.lo] at hi;have:=hs i hi
 rw[←hl.lo];cases hg:h[l.lo+i]? with
 |none=>rw[hg] at this;cases this
 |some s=>
  rw[hg] at this;obtain⟨σ,hσ,hr⟩:=hh.get hg;simp only[hσ];have hn:=isN_nf this;obtain⟨v,s',σ',h1,h2,h3⟩:=stepOf_ok (dr:=false) (X:=⟨noC,0,[],[],l.v⟩) (C:=fun _ _ _=>none) (fun f args s σ v s' _ e=>by cases e) hl.e hr l.op nxS hn
  rw[h3] at hn;rw[evX_look hl.lk] at h1;rw[←hl.op,h1];simp only
  cases hv:sameV 10 v l.v with
  |true=>rw[←hl.v,hv]
  |false=>
   exfalso
   apply hn
   show(bif sameV 10 v l.v then RX.norm l.e s' else .fail)=_
   rw[hv];rfl
theorem stabs_ok {h:List SF} {h':List Store} (hh:Al SR h h'):∀{ls:List LookF} {ms:List Look},Al LR ls ms→ls.all (stabF h)=true→ms.all (stable h')=true
 |_,_, .nil,_=>rfl
 |_,_, .cons h1 h2,hs=>by
  simp only[List.all_cons,Bool.and_eq_true] at hs ⊢;exact⟨stabF_ok hh h1 hs.1,stabs_ok hh h2 hs.2⟩
theorem compP_ok {C:Caller} {X:XC} (hC:CS X.c C):∀(ops:List EOp) {e:E} {a:Env} {s:SF} {σ:Store},R e a→SR s σ→(comp false false ops).run X e s≠ .fail→∃e' s' a' σ',evOps C ops a σ=some (a',σ')∧R e' a'∧SR s' σ'∧(comp false false ops).run X e s= .norm e' s'
 | [],e,a,s,σ,hR,h,_=> ⟨e,s,a,σ,rfl,hR,h,rfl⟩
 |o::os,e,a,s,σ,hR,h,hn=>by
  have e0:comp false false (o::os)=stepC false false o (comp false false os):=rfl
  rw[e0] at hn ⊢;rcases stepC_ok hC hR h o _ hn with⟨hw,v,s',σ',e',h1,h2,h3,h4⟩| ⟨hw,e',h3,h4⟩
  ·rw[h4] at hn ⊢
   obtain⟨e2,s2,a2,σ2,g1,g2,g3,g4⟩:=compP_ok hC os h3 h2 hn;have h1':evOp C o.op a σ=some (v,σ'):=h1
   exact⟨e2,s2,a2,σ2,by simp only[evOps,hw,if_true,h1'];exact g1,g2,g3,g4⟩
  ·rw[h4] at hn ⊢
   obtain⟨e2,s2,a2,σ2,g1,g2,g3,g4⟩:=compP_ok hC os h3 h hn;exact⟨e2,s2,a2,σ2,by simp only[evOps,hw,Bool.false_eq_true,if_false];exact g1,g2,g3,g4⟩
theorem compD_ok {C:Caller} {trk:Bool}:∀(ops:List EOp) {X:XC} {e:E} {a:Env} {s:SF} {σ:Store} {h:List Store} {ls:List Look},CS X.c C→R e a→SR s σ→(trk=true→Al SR X.h h∧Al LR X.ls ls)→(trk=false→ls= []∧∀o∈ops,o.win=none)→(comp true trk ops).run X e s≠ .fail→
  ∃e' s' a' σ' h' ls',evOpsD C X.b ops a σ h ls=some (a',σ',h',ls')∧ls'.all (stable h')=true∧R e' a'∧SR s' σ'∧(comp true trk ops).run X e s= .norm e' s'
 | [],X,e,a,s,σ,h,ls,hC,hR,hS,ht,hf,hn=>by
  cases trk with
  |false=>
   obtain⟨rfl,_⟩:=hf rfl;exact⟨e,s,a,σ,h,[],rfl,rfl,hR,hS,rfl⟩
  |true=>
   obtain⟨t1,t2⟩:=ht rfl;have e1:(comp true true []).run X e s=bif X.ls.all (stabF X.h) then .norm e s else .fail:=rfl
   rw[e1] at hn ⊢;cases hs:X.ls.all (stabF X.h) with
   |false=>rw[hs] at hn;exact absurd rfl hn
   |true=>exact⟨e,s,a,σ,h,ls,rfl,stabs_ok t1 t2 hs,hR,hS,rfl⟩
 |o::os,X,e,a,s,σ,h,ls,hC,hR,hS,ht,hf,hn=>by
  have e0:comp true trk (o::os)=stepC true trk o (comp true trk os):=rfl
  rw[e0] at hn ⊢;rcases stepC_ok hC hR hS o _ hn with⟨hw,v,s',σ',e',h1,h2,h3,h4⟩| ⟨hw,e',h3,h4⟩
  ·rw[h4] at hn ⊢
   have h1':evOpD C X.b o.op a σ=some (v,σ'):=h1
   have hb:(nxX trk o X e v s').b=X.b:=by cases trk<;>rfl
   have hc:(nxX trk o X e v s').c=X.c:=by cases trk<;>rfl
   have:=compD_ok (C:=C) (trk:=trk) os (X:=nxX trk o X e v s') (h:=if o.op.loud then h++ [σ'] else h) (ls:=match o.win with
     |some (lo,hi)=>if o.op.looks then⟨o.op,a,v,lo,hi⟩::ls else ls
     |none=>ls) (by rw[hc];exact hC) h3 h2 (fun t=> ?_) (fun t=> ?_) hn
   ·obtain⟨e2,s2,a2,σ2,h',ls',g1,g2,g3,g4,g5⟩:=this
    rw[hb] at g1;exact⟨e2,s2,a2,σ2,h',ls',by simp only[evOpsD,hw,if_true,h1'];exact g1,g2,g3,g4,g5⟩
   ·subst t
    obtain⟨t1,t2⟩:=ht rfl;refine⟨?_, ?_⟩
    ·show Al SR (bif o.op.loud then X.h++ [s'] else X.h) _
     cases o.op.loud with
     |true=>exact t1.snoc h2
     |false=>exact t1
    ·show Al LR (lookL o.win o.op e v X.ls) _
     unfold lookL;cases o.win with
     |none=>exact t2
     |some q=>
      obtain⟨lo,hi⟩:=q;simp only
      cases hl:o.op.looks with
      |true=>exact .cons ⟨rfl,hl,hR,rfl,rfl,rfl⟩ t2
      |false=>exact t2
   ·subst t
    obtain⟨t1,t2⟩:=hf rfl;have:=t2 o (by simp)
    rw[this];exact⟨t1,fun o ho=>t2 o (by simp[ho])⟩
  ·rw[h4] at hn ⊢
   have hb:(skX trk o X s).b=X.b:=by unfold skX;cases (trk&&o.op.loud)<;>rfl
   have hc:(skX trk o X s).c=X.c:=by unfold skX;cases (trk&&o.op.loud)<;>rfl
   have:=compD_ok (C:=C) (trk:=trk) os (X:=skX trk o X s) (h:=if o.op.loud then h++ [σ] else h) (ls:=ls) (by rw[hc];exact hC) h3 hS (fun t=> ?_) (fun t=> ?_) hn
   ·obtain⟨e2,s2,a2,σ2,h',ls',g1,g2,g3,g4,g5⟩:=this
    rw[hb] at g1;exact⟨e2,s2,a2,σ2,h',ls',by simp only[evOpsD,hw,Bool.false_eq_true,if_false];exact g1,g2,g3,g4,g5⟩
   ·subst t
    obtain⟨t1,t2⟩:=ht rfl;unfold skX;cases hl:o.op.loud with
    |true=>exact⟨t1.snoc hS,t2⟩
    |false=>exact⟨t1,t2⟩
   ·subst t
    obtain⟨t1,t2⟩:=hf rfl;exact⟨t1,fun o ho=>t2 o (by simp[ho])⟩
theorem allocL_ok :∀(l:List (TypeId×List Value)) {s:SF} {σ:Store} (k:SF→RX),SR s σ→allocL l s k≠ .fail→∃s',allocL l s k=k s'∧SR s' (allocs l σ)
 | [],s,σ,k,h,_=> ⟨s,rfl,h⟩
 |(t,z)::r,s,σ,k,h,hn=>by
  have e0:allocL ((t,z)::r) s k=allocK (.cells .rw t z) s (fun _ s=>allocL r s k):=rfl
  rw[e0] at hn ⊢;obtain⟨s',e1,h1⟩:=h.alloc (OR.cells .rw t z) hn;rw[e1] at hn ⊢;exact allocL_ok r k h1 hn
inductive RQ :RX→Option (Ex×Env×Store)→Prop
 |fail (q:Option (Ex×Env×Store)):RQ .fail q
 |norm {e:E} {a:Env} {s:SF} {σ:Store} (hR:R e a) (h:SR s σ):RQ (.norm e s) (some (.norm,a,σ))
 |exit (i:Nat) {e:E} {a:Env} {s:SF} {σ:Store} (hR:R e a) (h:SR s σ):RQ (.exit i e s) (some (.exit i,a,σ))
 |ret {e:E} {a:Env} {s:SF} {σ:Store} (hR:R e a) (h:SR s σ):RQ (.ret e s) (some (.ret,a,σ))
theorem RQ.of {r:RX} {q:Option (Ex×Env×Store)} (h:r≠ .fail→RQ r q):RQ r q:=by
 cases r with
 |fail=>exact .fail q
 |_=>exact h (by simp)
theorem regC_ok {C':CF} {C:Caller} (hC:CS C' C) (n:Nat) (ops:List EOp) {e:E} {a:Env} {s:SF} {σ:Store} (hR:R e a) (h:SR s σ):RQ ((regC ops).run C' n e s) (evCode C n (.reg ops) a σ):=by
 refine .of fun hn=> ?_
 have e0:(regC ops).run C' n e s=(comp false false ops).run ⟨C',0,[],[],undefE⟩ e s:=rfl
 rw[e0] at hn ⊢;obtain⟨e',s',a',σ',h1,h2,h3,h4⟩:=compP_ok (X:=⟨C',0,[],[],undefE⟩) hC ops hR h hn
 rw[h4];simp only[evCode,evReg,h1];exact .norm h2 h3
theorem regDC_ok {C':CF} {C:Caller} (hC:CS C' C) (n:Nat) (pre:List (TypeId×List Value)) (ops:List EOp) {e:E} {a:Env} {s:SF} {σ:Store} (hR:R e a) (h:SR s σ):RQ ((regDC pre ops).run C' n e s) (evCode C n (.regD pre ops) a σ):=by
 refine .of fun hn=> ?_
 cases hw:hasWin ops with
 |true=>
  have e0:(regDC pre ops).run C' n e s=allocL pre s fun s'=>(comp true true ops).run ⟨C',s.size,[s'],[],undefE⟩ e s':=by unfold regDC;rw[hw];rfl
  rw[e0] at hn ⊢;obtain⟨s1,e1,h1⟩:=allocL_ok pre _ h hn;rw[e1] at hn ⊢;obtain⟨e2,s2,a2,σ2,h',ls',g1,g2,g3,g4,g5⟩:=compD_ok (trk:=true) ops (X:=⟨C',s.size,[s1],[],undefE⟩) (h:= [allocs pre σ]) (ls:= []) hC hR h1 (fun _=> ⟨.cons h1 .nil, .nil⟩) (fun t=>by cases t) hn
  rw[g5];have g1':evOpsD C σ.size ops a (allocs pre σ) [allocs pre σ] []=some (a2,σ2,h',ls'):=by rw[←h.sz];exact g1
  simp only[evCode,evRegD,g1',g2,if_true];exact .norm g3 g4
 |false=>
  have e0:(regDC pre ops).run C' n e s=allocL pre s fun s'=>(comp true false ops).run ⟨C',s.size,[],[],undefE⟩ e s':=by unfold regDC;rw[hw];rfl
  rw[e0] at hn ⊢;obtain⟨s1,e1,h1⟩:=allocL_ok pre _ h hn;rw[e1] at hn ⊢;have hno:∀o∈ops,o.win=none:=by
   intro o ho;unfold hasWin at hw;rw[List.any_eq_false] at hw;have:=hw o ho
   cases hq:o.win with
   |none=>rfl
   |some q=>rw[hq] at this;exact absurd rfl this
  obtain⟨e2,s2,a2,σ2,h',ls',g1,g2,g3,g4,g5⟩:=compD_ok (trk:=false) ops (X:=⟨C',s.size,[],[],undefE⟩) (h:= [allocs pre σ]) (ls:= []) hC hR h1 (fun t=>by cases t) (fun _=> ⟨rfl,hno⟩) hn
  rw[g5];have g1':evOpsD C σ.size ops a (allocs pre σ) [allocs pre σ] []=some (a2,σ2,h',ls'):=by rw[←h.sz];exact g1
  simp only[evCode,evRegD,g1',g2,if_true];exact .norm g3 g4
theorem loopK_ok {C':CF} {ib:Code} {m:Nat} {body:Env→Store→Option (Ex×Env×Store)} (hb:∀{e:E} {a:Env} {s:SF} {σ:Store},R e a→SR s σ→RQ (ib.run C' m e s) (body a σ)):∀(n:Nat) {e:E} {a:Env} {s:SF} {σ:Store},R e a→SR s σ→RQ (loopK n ib C' m e s) (loopN body n a σ)
 |0,_,_,_,_,_,_=> .fail _
 |n+1,e,a,s,σ,hR,h=>by
  have e1:loopK (n+1) ib C' m e s=(match ib.run C' m e s with
   | .norm e s=>loopK n ib C' m e s
   |r=>r):=by
   simp only[loopK];cases ib.run C' m e s<;>rfl
  rw[e1];have:=hb hR h
  revert this
  generalize ib.run C' m e s=r
  generalize hq:body a σ=q
  intro this;cases this with
  |fail=>exact .fail _
  |norm h1 h2=>simp only[loopN,hq];exact loopK_ok hb n h1 h2
  |exit i h1 h2=>simp only[loopN,hq];exact .exit i h1 h2
  |ret h1 h2=>simp only[loopN,hq];exact .ret h1 h2
theorem callV_ok {C':CF} {C:Caller} (hC:CS C' C) {g:FuncId} {x y:Array Value} {args:List Value} {s:SF} {σ:Store} (h:SR s σ) {v:Value} {s':SF} (hr:callV C' (.func (.func g) x y) args s= .val v s'):∃σ',evCallV C (.func (.func g) x y) args σ=some (v,σ')∧SR s' σ':=by
 simp only[callV,appL_eq] at hr;obtain⟨σ',h1,h2⟩:=hC _ _ _ _ _ _ h hr;refine⟨σ', ?_,h2⟩
 simp only[evCallV,List.append_assoc];exact h1
theorem busyQ_eq (t:LoopState):busyQ t=decide (t= .busy):=by cases t<;>rfl
theorem rangeK_ok {C':CF} {C:Caller} (hC:CS C' C) (n:Nat) (f:Operand) (ps:List Tmp) (as b:EC) {e:E} {a:Env} {s:SF} {σ:Store} (hR:R e a) (h:SR s σ):RQ (rangeK (a.eval f) ps as b C' e s) (evCode C n (.rangeF f ps as b) a σ):=by
 refine .of fun hn=> ?_
 unfold rangeK at hn ⊢;obtain⟨s1,e1,h1⟩:=h.alloc (OR.loop hR ps as b .ready none) hn;rw[e1] at hn ⊢;cases hv:a.eval f with
 |func fn x y=>cases fn with
  |func g=>
   rw[hv] at hn;cases hc:callV C' (.func (.func g) x y) [.func (.yield σ.size) #[] #[]] s1 with
   |fail=>rw[hc] at hn;exact absurd rfl hn
   |val v s2=>
    rw[hc] at hn;obtain⟨σ2,h2,h3⟩:=callV_ok hC h1 hc;simp only[endK] at hn ⊢;simp only[evCode,hv,h2];cases hg:sget σ.size s2 with
    |none=>rw[hg] at hn;exact absurd rfl hn
    |some o=>
     rw[hg] at hn;obtain⟨q,hq,ho⟩:=h3.ob _ _ hg;simp only[hq];cases ho with
     |loop hR2 ps2 as2 b2 st pend=>
      simp only at hn ⊢;rw[busyQ_eq] at hn ⊢;by_cases hb:st= .busy
      ·rw[decide_eq_true hb] at hn;exact absurd rfl hn
      ·rw[decide_eq_false hb] at hn ⊢
       rw[if_neg hb];simp only[cond_false] at hn ⊢;cases pend with
       |none=>exact .norm hR (h3.set hg (.loop hR2 _ _ _ _ _))
       |some q=>cases q with
        |exit i=>exact .exit i hR (h3.set hg (.loop hR2 _ _ _ _ _))
        |ret=>exact .ret hR (h3.set hg (.loop hR2 _ _ _ _ _))
        |_=>exact absurd rfl hn
     |_=>exact absurd rfl hn
  |_=>rw[hv] at hn;exact absurd rfl hn
 |_=>rw[hv] at hn;exact absurd rfl hn
theorem fCode_ok {C':CF} {C:Caller} (hC:CS C' C) (n:Nat):∀(c:EC) {e:E} {a:Env} {s:SF} {σ:Store},R e a→SR s σ→RQ ((fCode c).run C' n e s) (evCode C n c a σ):=by
 intro c;induction c with
 |skip=>intro e a s σ hR h;exact .norm hR h
 |reg ops=>intro e a s σ hR h;exact regC_ok hC n ops hR h
 |regD pre ops=>intro e a s σ hR h;exact regDC_ok hC n pre ops hR h
 |seq x y ihx ihy=>
  intro e a s σ hR h
  have e1:(fCode (.seq x y)).run C' n e s=(match(fCode x).run C' n e s with
   | .norm e s=>(fCode y).run C' n e s
   |r=>r):=by
   show seqK ((fCode x).run C' n e s) (fCode y) C' n=_
   cases (fCode x).run C' n e s<;>rfl
  rw[e1];have:=ihx hR h
  revert this
  generalize (fCode x).run C' n e s=r
  generalize hq:evCode C n x a σ=q
  intro this;cases this with
  |fail=>exact .fail _
  |norm h1 h2=>simp only[evCode,hq];exact ihy h1 h2
  |exit i h1 h2=>simp only[evCode,hq];exact .exit i h1 h2
  |ret h1 h2=>simp only[evCode,hq];exact .ret h1 h2
 |cond c x y ihx ihy=>
  intro e a s σ hR h;show RQ (condK ((opnd c).g e) (fCode x) (fCode y) C' n e s) _
  rw[opnd_ok hR c];simp only[evCode];cases a.eval c with
  |bool b=>cases b with
   |true=>exact ihx hR h
   |false=>exact ihy hR h
  |_=>exact .fail _
 |block id b ih=>
  intro e a s σ hR h
  have e1:(fCode (.block id b)).run C' n e s=(match(fCode b).run C' n e s with
   | .exit i e s=>bif Nat.beq i id then .norm e s else .exit i e s
   |r=>r):=by
   show blockK ((fCode b).run C' n e s) id=_
   cases (fCode b).run C' n e s with
   |exit i e s=>simp only[blockK];cases Nat.beq i id<;>rfl
   |_=>rfl
  rw[e1];have:=ih hR h
  revert this
  generalize (fCode b).run C' n e s=r
  generalize hq:evCode C n b a σ=q
  intro this;cases this with
  |fail=>exact .fail _
  |norm h1 h2=>simp only[evCode,hq];exact .norm h1 h2
  |exit i h1 h2=>
   simp only[evCode,hq];by_cases hi:i=id
   ·subst hi;rw[Nat.beq_refl,if_pos rfl];exact .norm h1 h2
   ·rw[beq_f hi,if_neg hi];exact .exit i h1 h2
  |ret h1 h2=>simp only[evCode,hq];exact .ret h1 h2
 |loop b ih=>intro e a s σ hR h;exact loopK_ok ih n hR h
 |exit id=>intro e a s σ hR h;exact .exit id hR h
 |ret=>intro e a s σ hR h;exact .ret hR h
 |stuck=>intro e a s σ hR h;exact .fail _
 |rangeF f ps as b _ _=>
  intro e a s σ hR h;show RQ (rangeK ((opnd f).g e) ps as b C' e s) _
  rw[opnd_ok hR f];exact rangeK_ok hC n f ps as b hR h
theorem argK_ok :∀(l:List Value) (i:Nat) {e:E} {a:Env} {s:SF} (k:E→SF→RX),R e a→argK l i e s k≠ .fail→∃e',argK l i e s k=k e' s∧R e' ((l.zipIdx i).foldl (fun e (v,i)=>T.set e i v) a)
 | [],i,e,a,s,k,hR,_=> ⟨e,rfl,hR⟩
 |v::r,i,e,a,s,k,hR,hn=>by
  have e0:argK (v::r) i e s k=(selE i).p v e s (fun e s=>argK r (i+1) e s k):=rfl
  rw[e0] at hn ⊢;obtain⟨e',h1,h2⟩:=R.put hR rfl hn;rw[h1] at hn ⊢;obtain⟨e2,h3,h4⟩:=argK_ok r (i+1) k h2 hn;exact⟨e2,h3,by rw[List.zipIdx_cons,List.foldl_cons];exact h4⟩
theorem parK_ok :∀(ps:List Tmp) (vs:List Value) {e:E} {a:Env} {s:SF} (k:E→SF→RX),R e a→parK ps vs e s k≠ .fail→ps.length=vs.length∧∃e',parK ps vs e s k=k e' s∧R e' ((ps.zip vs).foldl (fun e (t,v)=>T.set e t v) a)
 | [],[],e,a,s,k,hR,_=> ⟨rfl,e,rfl,hR⟩
 | [],_::_,e,a,s,k,hR,hn=>absurd rfl hn
 |_::_,[],e,a,s,k,hR,hn=>absurd rfl hn
 |t::ts,v::vs,e,a,s,k,hR,hn=>by
  have e0:parK (t::ts) (v::vs) e s k=(selE t).p v e s (fun e s=>parK ts vs e s k):=rfl
  rw[e0] at hn ⊢;obtain⟨e',h1,h2⟩:=R.put hR rfl hn;rw[h1] at hn ⊢;obtain⟨hl,e2,h3,h4⟩:=parK_ok ts vs k h2 hn;exact⟨by simp[hl],e2,h3,by rw[List.zip_cons_cons,List.foldl_cons];exact h4⟩
theorem loadQ_ok {s:SF} {σ:Store} (h:SR s σ) {n:Option Nat} {v w:Value} (hq:loadQ n v s=some w):∃p,v= .pointer (some p)∧loadE σ n p=some w:=by
 cases v with
 |pointer a=>cases a with
  |none=>cases hq
  |some p=>
   simp only[loadQ] at hq;refine⟨p,rfl, ?_⟩
   cases hg:sget p.block s with
   |none=>rw[hg] at hq;cases hq
   |some o=>
    rw[hg] at hq;obtain⟨y,hy,ho⟩:=h.ob _ _ hg;simp only[loadE,hy];cases ho with
    |cells st e c=>
     cases n with
     |none=>simp only[nth_eq] at hq;exact hq
     |some n=>
      simp only[cutL_eq] at hq ⊢;by_cases hb:p.off+n≤c.length
      ·rw[if_pos hb] at hq;rw[if_pos hb];exact hq
      ·rw[if_neg hb] at hq;cases hq
    |_=>cases hq
 |_=>cases hq
theorem gres_ok {e:E} {a:Env} {s:SF} {σ:Store} (hR:R e a) (h:SR s σ):∀(l:RS) {vs:List Value},gres l e s=some vs→resultsE l a σ=some vs
 | [],vs,hq=>hq
 |(t,c)::r,vs,hq=>by
  have q0:gres ((t,c)::r) e s=(match gres1 c (eget t e) s with
   |some v=>(match gres r e s with
    |some vs=>some (v::vs)
    |none=>none)
   |none=>none):=by
   show gresN (gres1 c (eget t e) s) (gres r) e s=_
   cases gres1 c (eget t e) s with
   |none=>rfl
   |some v=>show consO (gres r e s) v=_;cases gres r e s<;>rfl
  rw[q0] at hq;cases h1:gres1 c (eget t e) s with
  |none=>rw[h1] at hq;cases hq
  |some v=>
   rw[h1] at hq;cases h2:gres r e s with
   |none=>rw[h2] at hq;cases hq
   |some ws=>
    rw[h2] at hq;cases hq
    have ih:=gres_ok hR h r h2;have ht:eget t e=a.get t:=hR t
    rw[ht] at h1;unfold resultsE at ih ⊢;rw[List.mapM_cons];simp only
    rw[ih];cases c with
    |none=>cases h1;rfl
    |some n=>
     obtain⟨p,e1,e2⟩:=loadQ_ok h h1;simp only[e1,e2];rfl
theorem packL_eq (l:List Value):packL l=packE l:=by
 cases l with
 |nil=>rfl
 |cons v r=>cases r<;>rfl
theorem readyQ_eq (t:LoopState):readyQ t=decide (t= .ready):=by cases t<;>rfl
theorem doneK_ok {l:Nat} {ok:Bool} {s:SF} {σ:Store} {st:LoopState} {pd:Option EC} (h:SR s σ) {v:Value} {s':SF} (hr:doneK l ok s st pd= .val v s'):v= .bool ok∧∃tm ps as b st0 pd0,σ.get l=some (.loop tm ps as b st0 pd0)∧SR s' (σ.set l (.loop tm ps as b st pd)):=by
 unfold doneK at hr;cases hg:sget l s with
 |none=>rw[hg] at hr;cases hr
 |some o=>
  rw[hg] at hr;obtain⟨q,hq,ho⟩:=h.ob _ _ hg;cases ho with
  |loop hR ps as b st0 pd0=>cases hr;exact⟨rfl,_,_,_,_,_,_,hq,h.set hg (.loop hR _ _ _ _ _)⟩
  |_=>cases hr
theorem fStep_ok {F:FuncId→Option EFunc} {C':CF} {C:Caller} (hC:CS C' C) (n:Nat):CS (fStep F C' n) (evStep F C n):=by
 intro f args s σ v s' h hr;cases f with
 |func f=>
  have q0:fStep F C' n (.func f) args s=fFun (F f) C' n args s:=rfl
  rw[q0] at hr;simp only[evStep];cases hf:F f with
  |none=>rw[hf] at hr;cases hr
  |some fn=>
   rw[hf] at hr;obtain⟨nt,rs,b⟩:=fn;have q1:fFun (some ⟨nt,rs,b⟩) C' n args s= @Bool.rec (fun _=>RV) .fail (fRes (argK args 0 e0 s (fun e s=>(fCode b).run C' n e s)) rs) (Nat.ble (lenL args) nt):=by
    simp only[fFun];cases Nat.ble (lenL args) nt<;>rfl
   rw[q1,lenL_eq] at hr;by_cases hl:args.length≤nt
   ·rw[Nat.ble_eq_true_of_le hl] at hr
    simp only at hr;have hn:argK args 0 Fast.e0 s (fun e s=>(fCode b).run C' n e s)≠ .fail:=by intro e;rw[e] at hr;cases hr
    obtain⟨e',g1,g2⟩:=argK_ok args 0 (a:= .leaf) _ R.e0 hn
    rw[g1] at hr;simp only[if_neg (show ¬nt<args.length by omega)]
    have hq:=fCode_ok hC n b (a:=envOf args) g2 h
    revert hr hq
    generalize (fCode b).run C' n e' s=r
    generalize evCode C n b (envOf args) σ=q
    intro hr hq;have fin:∀{e:E} {a:Env} {s2:SF} {σ2:Store},R e a→SR s2 σ2→resV (gres rs e s2) s2= .val v s'→∃σ',((resultsE rs a σ2).map fun vs=>(packE vs,σ2))=some (v,σ')∧SR s' σ':=by
     intro e a s2 σ2 hR h2 hv;cases hg:gres rs e s2 with
     |none=>rw[hg] at hv;cases hv
     |some vs=>
      rw[hg] at hv;cases hv
      rw[gres_ok hR h2 rs hg];exact⟨σ2,by rw[packL_eq];rfl,h2⟩
    cases hq with
    |fail=>cases hr
    |norm h1 h2=>exact fin h1 h2 hr
    |exit i h1 h2=>cases hr
    |ret h1 h2=>exact fin h1 h2 hr
   ·rw[ble_f hl] at hr;cases hr
 |yield l=>
  have e0:fStep F C' n (.yield l) args s=yYield C' n l args s:=rfl
  rw[e0] at hr;simp only[evStep];unfold yYield at hr;cases hg:sget l s with
  |none=>rw[hg] at hr;cases hr
  |some o=>
   rw[hg] at hr;obtain⟨q,hq,ho⟩:=h.ob _ _ hg;simp only[hq];cases ho with
   |loop hR ps as b st pend=>
    rename_i e1 a1;simp only at hr ⊢;have hn:parK ps args e1 s (fun e s=>(fCode as).run C' n e s)≠ .fail:=by intro e;rw[e] at hr;cases hr
    obtain⟨hl,e2,g1,g2⟩:=parK_ok ps args _ hR hn;rw[g1] at hr;rw[if_neg (by intro x;exact x hl)]
    have hq1:=fCode_ok hC n as g2 h
    revert hr hq1
    generalize (fCode as).run C' n e2 s=r
    generalize evCode C n as _ σ=q
    intro hr hq1;cases hq1 with
    |fail=>cases hr
    |exit i h1 h2=>cases hr
    |ret h1 h2=>cases hr
    |norm h1 h2=>
     simp only[yBody] at hr ⊢;rename_i s1 σ1;cases hg1:sget l s1 with
     |none=>rw[hg1] at hr;cases hr
     |some o1=>
      rw[hg1] at hr;obtain⟨q1,hq1,ho1⟩:=h2.ob _ _ hg1;simp only[hq1];cases ho1 with
      |loop hR1 ps1 as1 b1 st1 pend1=>
       simp only at hr ⊢;rw[readyQ_eq] at hr;by_cases hs:st1= .ready
       ·rw[decide_eq_true hs] at hr
        rw[if_neg (by intro x;exact x hs)]
        simp only[cond_true] at hr;have hq2:=fCode_ok hC n b h1 (h2.set hg1 (.loop hR1 ps1 as1 b1 .busy pend1))
        revert hr hq2
        generalize (fCode b).run C' n _ _=r
        generalize evCode C n b _ _=q
        intro hr hq2;cases hq2 with
        |fail=>cases hr
        |norm h3 h4=>
         obtain⟨rfl,tm,ps2,as2,b2,st2,pd2,w1,w2⟩:=doneK_ok h4 hr;simp only[w1];exact⟨_,rfl,w2⟩
        |exit i h3 h4=>
         obtain⟨rfl,tm,ps2,as2,b2,st2,pd2,w1,w2⟩:=doneK_ok h4 hr;simp only[w1];exact⟨_,rfl,w2⟩
        |ret h3 h4=>
         obtain⟨rfl,tm,ps2,as2,b2,st2,pd2,w1,w2⟩:=doneK_ok h4 hr;simp only[w1];exact⟨_,rfl,w2⟩
       ·rw[decide_eq_false hs] at hr;cases hr
      |_=>cases hr
   |_=>cases hr
theorem fCall_ok (F:FuncId→Option EFunc):∀n,CS (fCall F n) (evCall F (fun _ _ _=>none) n)
 |0=>fun f args s σ v s' _ hr=>by cases hr
 |n+1=>by
  intro f args s σ v s' h hr;exact fStep_ok (fCall_ok F n) n f args s σ v s' h hr
end
end Go.Ev.Fast
end EvFast
section EvTab
noncomputable section
namespace Go.Ev.Sx
def TAll {α:Type} (p:Nat→α→Prop):T α→(Nat→Nat)→Prop
 | .leaf,_=>True
 | .node v l r,ix=>(∀a,v=some a→p (ix 0) a)∧TAll p l (fun n=>ix (2*n+1))∧TAll p r (fun n=>ix (2*n+2))
theorem TAll_get {α:Type} {p:Nat→α→Prop}:∀{t:T α} {ix:Nat→Nat} {n:Nat} {a:α},TAll p t ix→t.get n=some a→p (ix n) a
 | .leaf,_,_,_,_,h=>by cases h
 | .node v l r,ix,n,a,⟨h1,h2,h3⟩,h=>by
  simp only[T.get] at h;split at h
  ·rename_i e;subst e;exact h1 a h
  ·split at h
   ·have:=TAll_get h2 h
    rw[show 2*(n/2)+1=n by omega] at this;exact this
   ·have:=TAll_get h3 h
    rw[show 2*(n/2 - 1)+2=n by omega] at this;exact this
theorem t1 {α:Type} {p:Nat→α→Prop} {i:Nat} {x:α} (h:p i x):∀a,some x=some a→p i a:=fun a e=>by cases e;exact h
theorem t0 {α:Type} {p:Nat→α→Prop} {i:Nat}:∀a,(none:Option α)=some a→p i a:=fun a e=>by cases e
theorem TAll.n1 {α:Type} {p:Nat→α→Prop} {i:Nat} {x:α} {l r:T α} {ix:Nat→Nat} (e:Nat.beq (ix 0) i=true) (h:p i x) (hl:TAll p l (fun n=>ix (2*n+1))) (hr:TAll p r (fun n=>ix (2*n+2))):TAll p (.node (some x) l r) ix:=by
 refine⟨t1 ?_,hl,hr⟩
 rw[Nat.eq_of_beq_eq_true e];exact h
theorem TAll.n0 {α:Type} {p:Nat→α→Prop} {l r:T α} {ix:Nat→Nat} (hl:TAll p l (fun n=>ix (2*n+1))) (hr:TAll p r (fun n=>ix (2*n+2))):TAll p (.node none l r) ix:=⟨t0,hl,hr⟩
theorem TAll.lf {α:Type} {p:Nat→α→Prop} {ix:Nat→Nat}:TAll p .leaf ix:=trivial
noncomputable def tabF (t:T EFunc):FuncId→Option EFunc:=fun f=>Fast.tget t f
theorem tabF_FOK {P:Program} {t:T EFunc} (h:TAll (fun i fn=>compFunc P i=some fn) t id):Ev.FOK P (tabF t):=fun f ef hf=>by
 unfold tabF at hf;rw[Fast.tget_eq] at hf;exact TAll_get h hf
def isPk (aw:FuncId) (cl:List Clo) (f:FuncId):Bool:=Nat.beq f aw||cl.any fun c=>Nat.beq f c.pg
theorem isPk_no {aw:FuncId} {cl:List Clo} {f:FuncId} (h:isPk aw cl f=false):f≠aw∧∀c∈cl,f≠c.pg:=by
 simp only[isPk,Bool.or_eq_false_iff,List.any_eq_false] at h;refine⟨fun e=> ?_,fun c hc e=> ?_⟩
 ·subst e;rw[Nat.beq_refl] at h;cases h.1
 ·have:=h.2 c hc
  subst e;rw[Nat.beq_refl] at this;exact this rfl
noncomputable def mkHx (F:FuncId→Option EFunc) (aw:FuncId) (cl:List Clo) (kd:List (Nat×HK)) (nx:Nat) (c:Clo):HX:=
 ⟨fun f=>bif isPk aw cl f then none else F f,fun f=>match hget f kd with
  |some k=>k
  |none=> .code,c.pg,c.pargs,c.rs,nx⟩
def mkWk (wk:List (Nat×WK)) (f:FuncId):WK:=match hget f wk with
 |some k=>k
 |none=> .code
theorem hget_mem {α:Type} {x:Nat} {a:α}:∀{l:List (Nat×α)},hget x l=some a→(x,a)∈l
 | [],h=>by cases h
 |(y,b)::r,h=>by
  simp only[hget] at h;split at h
  ·rename_i e;subst e;cases h;simp
  ·exact List.mem_cons_of_mem _ (hget_mem h)
def KdOK (F:FuncId→Option EFunc) (t:HT) (f:FuncId):HK→Prop
 | .int=>F f=some (putIntFn t.int)
 | .bool=>F f=some (putBoolFn t.int)
 | .str=>F f=some (putTextFn t.str)
 | .puts e s=>F f=some (putsFn t.int e s)
 | .code=>True
def WkOK (F:FuncId→Option EFunc) (f:FuncId):WK→Prop
 | .int=>F f=some wipeIntFn
 | .wipes e=>F f=some (wipesFn e)
 | .code=>True
def plainOK (cl:List Clo) (aw:FuncId) (kd:List (Nat×HK)) (wk:List (Nat×WK)) (kt:List KT):Bool:=
 KT.noStr (KT.ofL kt)&&decide (kt.length≤2048)&&cl.all (fun c=>c.pargs.all fun p=>p.2.all (fun i=>decide (i<kt.length))&&(p.1||p.2.length==1))&&cl.all (fun c=>c.pg !=aw)&&cl.all (fun c=>decide (c.ks.length≤2048))&&
  kd.all (fun p=> !(isPk aw cl p.1))&&wk.all (fun p=> !(isPk aw cl p.1))
theorem mk_facts {P:Program} {F:FuncId→Option EFunc} {t:HT} {cl:List Clo} {aw:FuncId} {kd:List (Nat×HK)} {wk:List (Nat×WK)} {kt:List KT} (hp:plainOK cl aw kd wk kt=true) (hone:∀c∈cl,∀c'∈cl,c.pg=c'.pg→c=c')
  (hkd:∀p∈kd,KdOK F t p.1 p.2) (hwk:∀p∈wk,WkOK F p.1 p.2) (hok:∀c∈cl,cloOK (mkHx F aw cl kd kt.length) (mkWk wk) kt.length c=true):Facts P F t cl aw (mkHx F aw cl kd kt.length) (mkWk wk) kt.length kt:=by
 simp only[plainOK,Bool.and_eq_true,decide_eq_true_eq,List.all_eq_true,Bool.or_eq_true,beq_iff_eq,bne_iff_ne,Bool.not_eq_true'] at hp;obtain⟨⟨⟨⟨⟨⟨p1,p2⟩,p3⟩,p4⟩,p5⟩,p6⟩,p7⟩:=hp;have hk:∀f k,(match hget f kd with|some k=>k|none=>HK.code)=k→k≠ .code→KdOK F t f k∧isPk aw cl f=false:=by
  intro f k h hn;cases hg:hget f kd with
  |none=>rw[hg] at h;exact absurd h.symm hn
  |some k'=>
   rw[hg] at h;simp only at h;subst h;have:=hget_mem hg
   exact⟨hkd _ this,p6 _ this⟩
 have hw:∀f k,mkWk wk f=k→k≠ .code→WkOK F f k∧isPk aw cl f=false:=by
  intro f k h hn;unfold mkWk at h;cases hg:hget f wk with
  |none=>rw[hg] at h;exact absurd h.symm hn
  |some k'=>
   rw[hg] at h;simp only at h;subst h;have:=hget_mem hg
   exact⟨hwk _ this,p7 _ this⟩
 refine⟨rfl,p1,p2,fun c _=> ⟨rfl,rfl,rfl,rfl⟩, ?_, ?_, ?_, ?_, ?_, ?_, ?_, ?_,hok,hone,p4,p5⟩
 ·intro c _ f fn hf
  have hf':(bif isPk aw cl f then none else F f)=some fn:=hf
  cases hb:isPk aw cl f with
  |true=>rw[hb] at hf';cases hf'
  |false=>rw[hb] at hf';exact⟨hf',isPk_no hb⟩
 ·intro c _ f hf
  obtain⟨a,b⟩:=hk f .int hf (by simp)
  exact⟨a,isPk_no b⟩
 ·intro c _ f hf
  obtain⟨a,b⟩:=hk f .bool hf (by simp)
  exact⟨a,isPk_no b⟩
 ·intro c _ f hf
  obtain⟨a,b⟩:=hk f .str hf (by simp)
  exact⟨a,isPk_no b⟩
 ·intro c _ f e s hf
  obtain⟨a,b⟩:=hk f (.puts e s) hf (by simp)
  exact⟨a,isPk_no b⟩
 ·intro f hf
  obtain⟨a,b⟩:=hw f .int hf (by simp)
  exact⟨a,isPk_no b⟩
 ·intro f e hf
  obtain⟨a,b⟩:=hw f (.wipes e) hf (by simp)
  exact⟨a,isPk_no b⟩
 ·intro c hc p hp
  refine⟨fun i hi=>(p3 c hc p hp).1 i hi,fun h=> ?_⟩
  rcases(p3 c hc p hp).2 with h1|h1
  ·rw[h] at h1;cases h1
  ·exact h1
noncomputable def awakeB (t:T EFunc) (n:Nat) (aw:FuncId):Bool:=match Fast.fCall (tabF t) n (.func aw) [] Fast.s0 with
 | .val (.bool true) _=>true
 |_=>false
theorem awake_canon {P:Program} {t:T EFunc} (hF:Ev.FOK P (tabF t)) (hmix:P.follows .mixedOrders=true) {aw:FuncId} {n:Nat} (h:awakeB t n aw=true) (σ0:Store):∃r,Canon P σ0 aw [] r∧r.1= .bool true:=by
 unfold awakeB at h;split at h
 ·rename_i s' hs
  obtain⟨τ,hr,_⟩:=Fast.fCall_ok (tabF t) n _ _ _ Store.empty _ _ Fast.SR.s0 hs;have hC:=evCall_COK hF hmix (H:=fun _ _ _=>none) COK.none n
  have h0:=RoAll_none
  let K:FuncId→List Value→Option (Value×Store):=fun f args=>if f=aw∧args.length=0 then some (.bool true,τ) else none
  have hK:∀g args r,K g args=some r→∃C,COK P C∧C (.func g) args Store.empty=some r:=by
   intro g args r hk;simp only[K] at hk;split at hk
   ·rename_i e
    obtain⟨rfl,e2⟩:=e;cases hk
    have:args= []:=List.length_eq_zero_iff.1 e2
    subst this;exact⟨_,hC,hr⟩
   ·cases hk
  refine⟨_,⟨hook Store.empty K,hook_COK h0 hK,hook_eq (K:=K) (τ:=τ) (v:= .bool true) ⟨Nat.zero_le _,fun l hl=>absurd hl (Nat.not_lt_zero l)⟩ (fun a h=>by cases h) (by simp[K]) (v':= .bool true) rfl⟩,rfl⟩
 ·cases h
end Go.Ev.Sx
end
end EvTab
