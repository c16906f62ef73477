/- The abstract interpreter Vi, part A: a verified interpreter over the model's code, whose run of a function gives the contract of the function. No condition beyond those typed in each theorem. -/
import Derived.WalkKit
import Derived.StillTail
import Derived.Deep.Quiet
import Derived.Laws.MakeOwn
import Derived.DeepKeys
import Derived.Laws.StructEq
import Derived.Laws.IdiomCopy
import Derived.Laws.CopyRow
import Derived.OrdersHeld
import Derived.Maps.Range
import Derived.Maps.RangeWalk
namespace Go.Vi
inductive Ty where
 |int (k:IntKind)
 |bool
 |list (own:Bool) (tid:Nat) (e:Ty)
 |pair (a b:Ty)
 |str (t:Ty)
 |ptr (t:Ty)
 |op (t:Ty)
 |arr (n:Nat) (e:Ty)
 |fn (a r:Ty)
 |bQ (a b r:Ty)
 |ext (own:Bool) (n i j:Nat)
 deriving DecidableEq
abbrev XK:=Int×Int
def qc6:Nat->Type
 |0=>Option (List (XK×XK))
 |1=>Option (List (XK×Int))
 |2=>XK×XK
 |3=>List (XK×XK)×Option (XK×XK)
 |4=>Option (List (XK×XK))
 |_=>Option Nat
def qc6.zero:(n:Nat)->qc6 n
 |0=>(none:Option (List (XK×XK)))
 |1=>(none:Option (List (XK×Int)))
 |2=>(((0:Int),(0:Int)),((0:Int),(0:Int)))
 |3=>(([]:List (XK×XK)),(none:Option (XK×XK)))
 |4=>(none:Option (List (XK×XK)))
 |_+5=>(some 0:Option Nat)
@[reducible] def Ty.den:Ty->Type
 |.int _=>Int
 |.bool=>Bool
 |.list _ _ e=>List e.den
 |.pair a b=>a.den×b.den
 |.str t=>t.den
 |.ptr t=>Option t.den
 |.op t=>Option t.den
 |.arr _ e=>List e.den
 |.fn a r=>a.den->Option r.den
 |.bQ a b r=>a.den->b.den->Option r.den
 |.ext _ n _ _=>qc6 n
def Ty.size:Ty->Nat
 |.pair a b=>a.size+b.size
 |.str t=>t.size
 |.arr n e=>n*e.size
 |_=>1
def Ty.zero:(τ:Ty)->τ.den
 |.int _=>(0:Int)
 |.bool=>false
 |.list _ _ _=>[]
 |.pair a b=>(a.zero,b.zero)
 |.str t=>t.zero
 |.ptr _=>none
 |.op _=>none
 |.arr n e=>List.replicate n e.zero
 |.fn _ _=>λ_=>none
 |.bQ _ _ _=>λ_ _=>none
 |.ext _ n _ _=>qc6.zero n
def Ty.zeroCells:Ty->List Value
 |.int k=>[.int k 0]
 |.bool=>[.bool false]
 |.list _ _ _=>[.slice none 0 0]
 |.pair a b=>a.zeroCells++b.zeroCells
 |.str t=>t.zeroCells
 |.ptr _=>[.pointer none]
 |.op _=>[.pointer none]
 |.arr n e=>(List.replicate n e.zeroCells).flatten
 |.fn _ _=>[.nilFunc]
 |.bQ _ _ _=>[.nilFunc]
 |.ext _ n _ _=>match n with
  |0=>[.map none]
  |1=>[.map none]
  |2=>[.nilIface]
  |3=>[.nilIface]
  |4=>[.nilIface]
  |_=>[.slice none 0 0]
def Ty.aD:Ty->Bool
 |.list _ _ e=>e.aD
 |.pair a b=>a.aD&&b.aD
 |.str t=>t.aD
 |.ptr t=>t.aD
 |.op t=>t.aD
 |.arr _ e=>e.aD
 |.fn _ _=>false
 |.bQ _ _ _=>false
 |.ext _ _ _ _=>false
 |_=>true
def Ty.eM:Ty->Bool
 |.pair a b=>a.eM&&b.eM
 |.str t=>t.eM
 |.ext _ _ _ _=>true
 |t=>t.aD
def Ty.de:Ty->Bool
 |.pair a b=>a.de&&b.de
 |.str t=>t.de
 |.ext _ n _ _=>!(Nat.beq n 2||Nat.beq n 3)
 |t=>t.aD
def Ty.ay:Ty->Bool
 |.list o _ e=>!o&&e.ay
 |.pair a b=>a.ay&&b.ay
 |.str t=>t.ay
 |.ptr t=>t.ay
 |.op _=>false
 |.arr _ e=>e.ay
 |.fn a r=>a.ay&&r.ay
 |.bQ a b r=>a.ay&&b.ay&&r.ay
 |.ext o _ _ _=>!o
 |_=>true
def Ty.az:Ty->Bool
 |.int _=>true
 |.bool=>true
 |.pair a b=>a.az&&b.az
 |.str t=>t.az
 |.arr _ e=>e.az
 |_=>false
def Ty.isClosed:Ty->Bool
 |.int _=>true
 |.bool=>true
 |.list o _ e=>o&&e.isClosed
 |.pair a b=>a.isClosed&&b.isClosed
 |.str t=>t.isClosed
 |.arr _ e=>e.isClosed
 |.op t=>t.isClosed
 |.ext o n _ _=>o && !Nat.beq n 3
 |_=>false
def Ty.fz:Ty->Ty
 |.list _ t e=>.list false t e.fz
 |.pair a b=>.pair a.fz b.fz
 |.str t=>.str t.fz
 |.ptr t=>.ptr t.fz
 |.op t=>.ptr t.fz
 |.arr n e=>.arr n e.fz
 |.fn a r=>.fn a.fz r.fz
 |.bQ a b r=>.bQ a.fz b.fz r.fz
 |.ext _ n i j=>.ext false n i j
 |.int k=>.int k
 |.bool=>.bool
theorem Ty.bR:(τ:Ty)->τ.fz.den=τ.den
 |.int _=>rfl
 |.bool=>rfl
 |.list _ _ e=>by simp only[Ty.fz,Ty.den,Ty.bR e]
 |.pair a b=>by simp only[Ty.fz,Ty.den,Ty.bR a,Ty.bR b]
 |.str t=>by simp only[Ty.fz,Ty.den,Ty.bR t]
 |.ptr t=>by simp only[Ty.fz,Ty.den,Ty.bR t]
 |.op t=>by simp only[Ty.fz,Ty.den,Ty.bR t]
 |.arr _ e=>by simp only[Ty.fz,Ty.den,Ty.bR e]
 |.fn a r=>by simp only[Ty.fz,Ty.den,Ty.bR a,Ty.bR r]
 |.bQ a b r=>by simp only[Ty.fz,Ty.den,Ty.bR a,Ty.bR b,Ty.bR r]
 |.ext _ _ _ _=>rfl
def Ty.isAgg:Ty->Bool
 |.str _=>true
 |.arr _ _=>true
 |_=>false
def qF(τ σ:Ty)(x:τ.den):Option σ.den:=
 if h:τ=σ then some (h▸x)else none
def Mn(τ:Ty)(x:τ.den):τ.fz.den:=cast (Ty.bR τ).symm x
noncomputable def GF{ι R:Type}(p:ι->Prop)(k:ι->Option R):Option R:=
 open Classical in if h:∃r,∀i,p i->k i=some r then some h.choose else none
theorem Ui{ι R:Type}{p:ι->Prop}{k:ι->Option R}{r:R}(h:GF p k=some r)(i:ι)(hi:p i):k i=some r:=by
 unfold GF at h
 split at h
 ·rename_i hx
  cases h
  exact hx.choose_spec i hi
 ·cases h
theorem Yz{ι R:Type}{p:ι->Prop}{k:ι->Option R}{r:R}(i:ι)(hi:p i)(h:∀i,p i->k i=some r):GF p k=some r:=by
 unfold GF
 have hx:∃r,∀i,p i->k i=some r:=⟨r,h⟩
 rw[dif_pos hx]
 have:=hx.choose_spec i hi
 rw[h i hi]at this
 exact this.symm
noncomputable def qv{R:Type}(l:List (Option R)):Option R:=GF (λx:Option R=>x∈l) λx=>x
theorem qh4{R:Type}{l:List (Option R)}{r:R}(h:qv l=some r):∀x∈l,x=some r:=λx hx=>Ui h x hx
theorem qoM{R:Type}{x:Option R}{r:R}{l:List (Option R)}(h:∀y∈x::l,y=some r):qv (x::l)=some r:=Yz x (List.mem_cons_self ..) λi hi=>h i hi
noncomputable def QK{Y R:Type}(W:(Y->Prop)->Prop)(k:Y->Option R):Option R:=
 open Classical in if h:∃r,W (λy=>k y=some r)then some h.choose else none
theorem qit{Y R:Type}{W:(Y->Prop)->Prop}{k:Y->Option R}{r:R}(h:QK W k=some r):W (λy=>k y=some r):=by
 unfold QK at h
 split at h
 ·rename_i hx
  cases h
  exact hx.choose_spec
 ·cases h
theorem LJ{Y R:Type}{W:(Y->Prop)->Prop}{k:Y->Option R}{r:R}(h1:W (λy=>k y=some r))(h2:∀S,W S->∃y,k y=some r/\S y):QK W k=some r:=by
 have h:∃r,W (λy=>k y=some r):=⟨r,h1⟩
 unfold QK
 rw[dif_pos h]
 obtain⟨y,e1,e2⟩:=h2 _ h.choose_spec
 rw[<-e2,e1]
noncomputable def kS(p:Prop):Option Unit:=open Classical in if p then some ()else none
theorem MK{p:Prop}(h:kS p=some ()):p:=by
 unfold kS at h
 split at h
 ·assumption
 ·cases h
theorem Js{p:Prop}(h:p):kS p=some ():=by
 unfold kS
 rw[if_pos h]
noncomputable def BC{R:Type}(n:Nat)(k:Bool->Option R):Option R:=bif Nat.beq n 0 then GF (λ_:Bool=>True) k else k false
def qn{α R:Type}(l:List α)(i:Int)(k:α->Option R):Option R:=
 if 0<=i then(match l[i.toNat]? with|some x=>k x|none=>none)else none
def bx{R:Type}(i:Int)(n:Nat)(k:Option R):Option R:=if 0<=i/\i<n then k else none
def qa{α R:Type}(o:Option α)(k:α->Option R):Option R:=match o with|some x=>k x|none=>none
def BR:Int->Bool
 |.ofNat m=>Nat.ble m 274877906944
 |.negSucc _=>false
def qo{R:Type}(n:Int)(k:Option R):Option R:=bif BR n then k else none
theorem qkj{n:Int}:BR n=true↔0<=n/\n<=274877906944:=by
 cases n with
 |ofNat m=>
  show Nat.ble m 274877906944=true↔_
  rw[Nat.ble_eq]
  constructor
  ·intro h;exact⟨Int.natCast_nonneg m,by show((m:Nat):Int)<=274877906944;omega⟩
  ·rintro⟨_,h⟩;have h':((m:Nat):Int)<=274877906944:=h;omega
 |negSucc m=>
  constructor
  ·intro h;cases h
  ·rintro⟨h,_⟩;exact absurd h (by simp)
theorem jQ{R:Type}(n:Int)(k:Option R):qo n k=if 0<=n/\n<=274877906944 then k else none:=by
 unfold qo
 cases h:BR n with
 |true=>rw[if_pos (qkj.1 h)];rfl
 |false=>rw[if_neg (λhh=>by rw[qkj.2 hh]at h;cases h)];rfl
def bO{R:Type}(a b:Int)(k:Option R):Option R:=if a<=b then k else none
def eqK{R:Type}(a b:Int)(k:Option R):Option R:=if a=b then k else none
def nzK{R:Type}(a:Int)(k:Option R):Option R:=if a=0 then none else k
inductive qu where
 |L|R
 |I (i:Int)
inductive AV where
 |dead
 |val (τ:Ty) (x:τ.den)
 |ref (τ:Ty) (x:τ.den)
 |ptr (id:Nat) (p:List qu)
 |view (id:Nat) (p:List qu)
 |d_ (id:Nat) (p:List qu) (tid:Nat) (e:Ty) (l:List e.den)
 |cut (id:Nat) (p:List qu) (sz:Nat) (lo:Int)
 |fn (f:Nat) (first aG:AV)
 |nil
 |cons (a b:AV)
 |gh (n:Nat) (a:AV)
 |cv (i f n:Nat)
structure Obj where
 row:Bool
 τ:Ty
 x:τ.den
structure Ms where
 kt:Nat
 vt:Nat
 tm:List Nat
 kv:List (Int×Int)
 it:Option (List Nat×List Int)
 cur:Option (Int×Int)
def Hg(t:Nat):List Nat->List Nat
 |[]=>[]
 |u::r=>bif Nat.beq u t then Hg t r else u::Hg t r
def Ol:Nat:=3000000
def nP(t:Nat):List Nat->Bool
 |[]=>false
 |u::r=>Nat.beq u t||nP t r
def Ms.aB(m:Ms)(d:Option Nat):Ms:=
 match d with
 |none=>m
 |some t=>⟨m.kt,m.vt,Hg t m.tm,m.kv,m.it.map λx=>(Hg t x.1,x.2),m.cur⟩
def Ms.calm(m:Ms):Ms:=⟨m.kt,m.vt,m.tm,m.kv,m.it,none⟩
def Ms.add(m:Ms)(d:Option Nat):Ms:=
 match d with
 |none=>m
 |some t=>⟨m.kt,m.vt,t::m.tm,m.kv,m.it,m.cur⟩
def bX:List (Int×Int)->Int->Option Int
 |[],_=>none
 |(n,v)::r,k=>bif n==k then some v else bX r k
def nQ:List (Int×Int)->Int->Int->List (Int×Int)
 |[],k,v=>[(k,v)]
 |(n,u)::r,k,v=>bif n==k then(k,v)::r else(n,u)::nQ r k v
def nO:List (Int×Int)->Int->List (Int×Int)
 |[],_=>[]
 |(n,u)::r,k=>bif n==k then r else(n,u)::nO r k
def oz(k:Int):List Int->List Int
 |[]=>[]
 |n::r=>bif n==k then oz k r else n::oz k r
def sj(a b:XK):Bool:=(a.1==b.1)&&(a.2==b.2)
def jE{β:Type}:List (XK×β)->XK->Option β
 |[],_=>none
 |x::r,k=>bif sj x.1 k then some x.2 else jE r k
def ep{β:Type}:List (XK×β)->XK->β->List (XK×β)
 |[],k,v=>[(k,v)]
 |x::r,k,v=>bif sj x.1 k then(k,v)::r else x::ep r k v
def ij{β:Type}(k:XK):List (XK×β)->List (XK×β)
 |[]=>[]
 |x::r=>bif sj x.1 k then ij k r else x::ij k r
structure St where
 ts:List (Nat×AV)
 os:List (Nat×Option Obj)
 mp:Option Ms:=none
def St.aL(s:St)(m:Option Ms):St:=⟨s.ts,s.os,m⟩
def lk{α:Type}:List (Nat×α)->Nat->Option α
 |[],_=>none
 |(m,a)::r,n=>bif Nat.beq m n then some a else lk r n
def St.get(s:St)(t:Nat):Option AV:=lk s.ts t
def St.set(s:St)(t:Nat)(a:AV):St:={s with ts:=(t,a)::s.ts}
def St.obj(s:St)(id:Nat):Option Obj:=(lk s.os id).join
def St.setObj(s:St)(id:Nat)(o:Option Obj):St:={s with os:=(id,o)::s.os}
def St.ah(s:St)(d:Option Nat)(a:AV):St:=match d with|some t=>s.set t a|none=>s
def AV.af(f:AV->Bool):AV->AV
 |.cons a b=>.cons (a.af f) (b.af f)
 |.fn g b c=>.fn g (b.af f) (c.af f)
 |.cut i p z lo=>bif f (.view i p)then .dead else .cut i p z lo
 |.gh n a=>.gh n (a.af f)
 |a=>bif f a then .dead else a
def AV.aH:AV->Bool
 |.d_ _ _ _ _ _=>true
 |_=>false
def AV.names(id:Nat):AV->Bool
 |.ptr i _=>Nat.beq i id
 |.view i _=>Nat.beq i id
 |.d_ _ _ _ _ _=>true
 |_=>false
def St.af(s:St)(f:AV->Bool):St:={s with ts:=s.ts.map λx=>(x.1,x.2.af f)}
def St.kill(s:St)(id:Nat):St:=s.af (AV.names id)
def qu.dW:qu->Bool
 |.I _=>true
 |_=>false
def AV.bB(id:Nat)(row:Bool):AV->Bool
 |.view i p=>Nat.beq i id && !(row&&p.isEmpty)
 |.ptr i p=>Nat.beq i id&&p.any qu.dW
 |.d_ _ _ _ _ _=>true
 |_=>false
def AV.lJ(id:Nat):AV->Bool
 |.view i p=>Nat.beq i id&&p.any qu.dW
 |.ptr i p=>Nat.beq i id&&p.any qu.dW
 |.d_ _ _ _ _ _=>true
 |_=>false
def kW:List qu->List qu->Bool
 |.L::p,.L::q=>kW p q
 |.R::p,.R::q=>kW p q
 |.L::_,.R::q=>!q.any qu.dW
 |.R::_,.L::q=>!q.any qu.dW
 |_,_=>false
def cK:Ty->List qu->Bool
 |.pair a b,p=>match p with
  |.L::p=>cK a p
  |.R::p=>cK b p
  |_=>false
 |.str t,p=>cK t p
 |.list true _ _,p=>match p with
  |.I _::_=>true
  |_=>false
 |.op _,p=>match p with
  |.I _::_=>true
  |_=>false
 |_,_=>false
def jl:List qu->List qu->Bool
 |_,[]=>true
 |.L::p,.L::q=>jl p q
 |.R::p,.R::q=>jl p q
 |.I _::p,.I _::q=>jl p q
 |.L::_,.R::_=>true
 |.R::_,.L::_=>true
 |_,_=>false
def kX:Ty->List qu->List qu->Bool
 |.pair a b,p,q=>match p,q with
  |.L::p,.L::q=>kX a p q
  |.R::p,.R::q=>kX b p q
  |.L::_,.R::_=>true
  |.R::_,.L::_=>true
  |p,[]=>cK (.pair a b) p
  |_,_=>false
 |.str t,p,q=>kX t p q
 |.list true _ e,p,q=>match p,q with
  |.I _::p,.I _::q=>kX e p q
  |.I _::_,[]=>true
  |_,_=>false
 |.op t,p,q=>match p,q with
  |.I _::p,.I _::q=>kX t p q
  |.I _::_,[]=>true
  |_,_=>false
 |.arr _ e,p,q=>match p,q with
  |.I _::p,.I _::q=>kX e p q
  |_,_=>false
 |_,_,_=>false
def kq:Ty->List qu->Option Ty
 |.pair a b,p=>match p with
  |[]=>some (.pair a b)
  |.L::q=>kq a q
  |.R::q=>kq b q
  |_=>none
 |.str t,p=>match p with
  |[]=>some (.str t)
  |s::q=>kq t (s::q)
 |.list true tid e,p=>match p with
  |[]=>some (.list true tid e)
  |.I _::q=>kq e q
  |_=>none
 |.arr n e,p=>match p with
  |[]=>some (.arr n e)
  |.I _::q=>kq e q
  |_=>none
 |.op t,p=>match p with
  |[]=>some (.op t)
  |.I _::q=>kq t q
  |_=>none
 |t,p=>match p with
  |[]=>some t
  |_=>none
def Ty.aM:Ty->Bool
 |.int _=>true
 |.bool=>true
 |.pair a b=>a.aM&&b.aM
 |.str t=>t.aM
 |_=>false
def DG(τ:Ty)(p:List qu):Bool:=match kq τ p with
 |some σ=>σ.aM
 |none=>false
def AV.cE(id:Nat)(row:Bool)(τ:Ty)(p:List qu):AV->Bool
 |.view i q=>Nat.beq i id&&(!(row&&q.isEmpty) && !kX τ p q)
 |.ptr i q=>Nat.beq i id&&(q.any qu.dW && !(DG τ p||jl p q))
 |.d_ _ _ _ _ _=>true
 |_=>false
def AV.js(id:Nat)(row:Bool)(p:List qu):AV->Bool
 |.view i q=>Nat.beq i id&&(!(row&&q.isEmpty) && !jl p q)
 |.ptr i q=>Nat.beq i id&&(q.any qu.dW && !jl p q)
 |.d_ _ _ _ _ _=>true
 |_=>false
def iS{R:Type}:(τ:Ty)->τ.den->List qu->((σ:Ty)->σ.den->Option R)->Option R
 |.pair a b,x,p,k=>match p with
  |[]=>k (.pair a b) x
  |.L::q=>iS a x.1 q k
  |.R::q=>iS b x.2 q k
  |_=>none
 |.str t,x,p,k=>match p with
  |[]=>k (.str t) x
  |s::q=>iS t x (s::q) k
 |.list true tid e,x,p,k=>match p with
  |[]=>k (.list true tid e) x
  |.I i::q=>qn x i λy=>iS e y q k
  |_=>none
 |.arr n e,x,p,k=>match p with
  |[]=>k (.arr n e) x
  |.I i::q=>qn x i λy=>iS e y q k
  |_=>none
 |.op t,x,p,k=>match p with
  |[]=>k (.op t) x
  |.I _::q=>qa x λy=>iS t y q k
  |_=>none
 |t,x,p,k=>match p with
  |[]=>k t x
  |_=>none
def iT{R:Type}:(τ:Ty)->τ.den->List qu->(σ:Ty)->σ.den->(τ.den->Option R)->Option R
 |.pair a b,x,p,σ,y,k=>match p with
  |[]=>qa (qF σ (.pair a b) y) k
  |.L::q=>iT a x.1 q σ y λz=>k (z,x.2)
  |.R::q=>iT b x.2 q σ y λz=>k (x.1,z)
  |_=>none
 |.str t,x,p,σ,y,k=>match p with
  |[]=>qa (qF σ (.str t) y) k
  |s::q=>iT t x (s::q) σ y k
 |.list true tid e,x,p,σ,y,k=>match p with
  |[]=>qa (qF σ (.list true tid e) y) k
  |.I i::q=>qn x i λz=>iT e z q σ y λz'=>k (x.set i.toNat z')
  |_=>none
 |.arr n e,x,p,σ,y,k=>match p with
  |[]=>qa (qF σ (.arr n e) y) k
  |.I i::q=>qn x i λz=>iT e z q σ y λz'=>k (x.set i.toNat z')
  |_=>none
 |.op t,x,p,σ,y,k=>match p with
  |[]=>qa (qF σ (.op t) y) k
  |.I _::q=>qa x λz=>iT t z q σ y λz'=>k (some z')
  |_=>none
 |t,_,p,σ,y,k=>match p with
  |[]=>qa (qF σ t y) k
  |_=>none
def lP:Ty->Nat->List qu
 |.pair _ _,0=>[.L]
 |.pair _ b,i+1=>.R::lP b i
 |_,_=>[]
def uI:Ty->Nat->Bool
 |.pair _ _,0=>true
 |.pair _ b,i+1=>uI b i
 |_,i=>Nat.beq i 0
def QZ{R:Type}:(τ:Ty)->τ.den->List qu->((σ:Ty)->σ.den->Option R)->Option R
 |.pair a b,x,p,k=>match p with
  |[]=>k (.pair a b) x
  |.L::q=>QZ a x.1 q k
  |.R::q=>QZ b x.2 q k
  |_=>none
 |t,x,p,k=>match p with
  |[]=>k t x
  |_=>none
end Go.Vi
namespace Go.Vi
inductive j3 where
 |v (τ:Ty)
 |r (τ:Ty)
 |m (τ:Ty)
 |mr (tid:Nat) (e:Ty)
 |c (f:Nat)
 |t (tid:Nat) (e:Ty)
 |gm (τ:Ty)
 |cm (f:Nat) (τ:Ty)
def TB:Ty->Bool
 |.list true _ _=>true
 |.str _=>true
 |.ext true _ _ _=>true
 |_=>false
inductive fk where
 |v (τ:Ty)
 |own (tid:Nat) (e:Ty)
 |iu (τ:Ty)
 |ir (τ:Ty)
 |sure (nn:Bool) (tid:Nat) (e:Ty)
@[reducible] def j3.den:j3->Type
 |.v τ=>τ.den
 |.r τ=>τ.den
 |.c _=>Unit
 |.m τ=>τ.den
 |.mr _ e=>List e.den
 |.t _ e=>List e.den
 |.gm τ=>τ.den
 |.cm _ τ=>τ.den
@[reducible] def fk.den:fk->Type
 |.v τ=>τ.den
 |.own _ e=>List e.den
 |.iu τ=>τ.den
 |.ir τ=>τ.den
 |.sure _ _ e=>List e.den
@[reducible] def aI:List j3->Type
 |[]=>Unit
 |p::ps=>p.den×aI ps
@[reducible] def bH:List fk->Type
 |[]=>Unit
 |p::ps=>p.den×bH ps
@[reducible] def aV:List j3->Type
 |[]=>Unit
 |.m τ::ps=>τ.den×aV ps
 |.mr _ e::ps=>List e.den×aV ps
 |.v _::ps=>aV ps
 |.r _::ps=>aV ps
 |.c _::ps=>aV ps
 |.t _ _::ps=>aV ps
 |.gm _::ps=>aV ps
 |.cm _ τ::ps=>τ.den×aV ps
structure qS where
 ps:List j3
 rs:List fk
 g:aI ps->Option (bH rs×aV ps)
structure zb where
 p:qS
 f:Nat
def j3.closed:j3->Bool
 |.m τ=>τ.isClosed
 |.mr _ e=>e.az
 |.t _ e=>e.az
 |.gm τ=>τ.isClosed
 |.cm _ τ=>τ.isClosed
 |_=>true
def fk.closed:fk->Bool
 |.v τ=>τ.az
 |.own _ e=>e.az
 |.iu τ=>τ.isClosed
 |.ir τ=>τ.isClosed
 |.sure _ _ e=>e.az
inductive Sh where
 |v (τ:Ty)
 |r (τ:Ty)
 |c (a:AV)
 |k (g i:Nat) (τ:Ty)
 |p (vw:Bool) (i:Nat) (q1 q2:List qu)
 |u (i:Nat) (q1 q2:List qu) (tid:Nat) (e:Ty)
structure XC where
 kt:Nat
 vt:Nat
 tm:List Nat
 ti:Option (List Nat)
structure nB where
 ts:List (Nat×Sh)
 os:List (Nat×Bool×Ty)
 mp:Option XC
@[reducible] def om:List (Nat×Sh)->Type
 |[]=>Unit
 |(_,.v τ)::r=>τ.den×om r
 |(_,.r τ)::r=>τ.den×om r
 |(_,.c _)::r=>om r
 |(_,.k _ _ τ)::r=>τ.den×om r
 |(_,.p _ _ _ _)::r=>Int×om r
 |(_,.u _ _ _ _ e)::r=>(Int×List e.den)×om r
@[reducible] def DY:List (Nat×Bool×Ty)->Type
 |[]=>Unit
 |(_,_,τ)::r=>τ.den×DY r
@[reducible] def JB:Option XC->Type
 |none=>Unit
 |some ⟨_,_,_,none⟩=>List (Int×Int)
 |some ⟨_,_,_,some _⟩=>List (Int×Int)×List Int
@[reducible] def nB.Ff(sk:nB):Type:=om sk.ts×DY sk.os×JB sk.mp
def AT(t:Nat)(a:AV):AV:=bif Nat.ble 20000000 t then .gh t a else a
def Hq(t:Nat):Option AV->Option AV
 |some (.gh n a)=>bif Nat.ble 20000000 t then(bif Nat.beq n t then some a else none)else some (.gh n a)
 |x=>bif Nat.ble 20000000 t then none else x
def vh:(l:List (Nat×Sh))->om l->List (Nat×AV)
 |[],_=>[]
 |(t,.v τ)::r,d=>(t,AT t (.val τ d.1))::vh r d.2
 |(t,.r τ)::r,d=>(t,AT t (.ref τ d.1))::vh r d.2
 |(t,.c a)::r,d=>(t,AT t a)::vh r d
 |(t,.k g i τ)::r,d=>(t,AT t (.fn g .nil (.cons (.ptr i []) (.cons (.ref τ d.1) .nil))))::vh r d.2
 |(t,.p vw i q1 q2)::r,d=>(t,AT t (bif vw then .view i (q1 ++ .I d.1::q2)else .ptr i (q1 ++ .I d.1::q2)))::vh r d.2
 |(t,.u i q1 q2 tid e)::r,d=>(t,AT t (.d_ i (q1 ++ .I d.1.1::q2) tid e d.1.2))::vh r d.2
def Tq:(l:List (Nat×Bool×Ty))->DY l->List (Nat×Option Obj)
 |[],_=>[]
 |(i,b,τ)::r,d=>(i,some ⟨b,τ,d.1⟩)::Tq r d.2
def Lr:(m:Option XC)->JB m->Option Ms
 |none,_=>none
 |some ⟨kt,vt,tm,none⟩,d=>some ⟨kt,vt,tm,d,none,none⟩
 |some ⟨kt,vt,tm,some ti⟩,d=>some ⟨kt,vt,tm,d.1,some (ti,d.2),none⟩
def nB.fill(sk:nB)(d:sk.Ff):St:=⟨vh sk.ts d.1,Tq sk.os d.2.1,Lr sk.mp d.2.2⟩
def qu.same:qu->qu->Bool
 |.L,.L=>true
 |.R,.R=>true
 |_,_=>false
def rW:List qu->List qu->Bool
 |[],[]=>true
 |a::p,b::q=>a.same b&&rW p q
 |_,_=>false
def AV.same:AV->AV->Bool
 |.dead,_=>true
 |.ptr i p,.ptr j q=>Nat.beq i j&&rW p q
 |.view i p,.view j q=>Nat.beq i j&&rW p q
 |.fn f a b,.fn g c d=>Nat.beq f g&&a.same c&&b.same d
 |.nil,.nil=>true
 |.cons a b,.cons c d=>a.same c&&b.same d
 |.gh n a,.gh m b=>Nat.beq n m&&a.same b
 |.cv i f n,.cv j g m=>Nat.beq i j&&(Nat.beq f g&&Nat.beq n m)
 |_,_=>false
def isZ:Int->Bool
 |.ofNat n=>Nat.beq n 0
 |.negSucc _=>false
def Mi:List qu->List qu->Bool
 |[],[]=>true
 |.L::p,.L::q=>Mi p q
 |.R::p,.R::q=>Mi p q
 |.I a::p,.I b::q=>isZ a&&(isZ b&&Mi p q)
 |_,_=>false
def JX:List qu->List qu->List qu->Option Int
 |[],q2,.I i::p=>bif Mi q2 p then some i else none
 |.L::q1,q2,.L::p=>JX q1 q2 p
 |.R::q1,q2,.R::p=>JX q1 q2 p
 |_,_,_=>none
def rowAt(s:St)(i:Nat)(q1 q2:List qu)(tid:Nat)(e:Ty):Option AV->Option (Int×List e.den)
 |some (.d_ j p t e' l)=>bif Nat.beq j i then(match JX q1 q2 p,qF (.list false t e') (.list false tid e) l with
  |some n,some l=>some (n,l)
  |_,_=>none)else none
 |some (.view j p)=>bif Nat.beq j i&&e.aD then(match JX q1 q2 p,s.obj j with
  |some n,some o=>iS o.τ o.x p λσ y=>qa (qF σ (.list true tid e) y) λl=>some (n,l)
  |_,_=>none)else none
 |_=>none
def ve(s:St):(l:List (Nat×Sh))->Option (om l)
 |[]=>some ()
 |(t,.v τ)::r=>match Hq t (s.get t)with
  |some (.val σ x)=>match qF σ τ x,ve s r with
   |some y,some d=>some (y,d)
   |_,_=>none
  |_=>none
 |(t,.r τ)::r=>match Hq t (s.get t)with
  |some (.ref σ x)=>match qF σ τ x,ve s r with
   |some y,some d=>some (y,d)
   |_,_=>none
  |_=>none
 |(t,.c a)::r=>match Hq t (s.get t)with
  |some b=>bif a.same b then ve s r else none
  |none=>none
 |(t,.k g i τ)::r=>match Hq t (s.get t)with
  |some (.fn f .nil (.cons (.ptr j []) (.cons (.ref σ x) .nil)))=>bif Nat.beq f g&&Nat.beq j i then(match qF σ τ x,ve s r with
   |some y,some d=>some (y,d)
   |_,_=>none)else none
  |_=>none
 |(t,.p vw i q1 q2)::r=>match Hq t (s.get t)with
  |some (.ptr j p)=>bif !vw&&Nat.beq j i then(match JX q1 q2 p,ve s r with
   |some n,some d=>some (n,d)
   |_,_=>none)else none
  |some (.view j p)=>bif vw&&Nat.beq j i then(match JX q1 q2 p,ve s r with
   |some n,some d=>some (n,d)
   |_,_=>none)else none
  |_=>none
 |(t,.u i q1 q2 tid e)::r=>match rowAt s i q1 q2 tid e (Hq t (s.get t)),ve s r with
  |some y,some d=>some (y,d)
  |_,_=>none
def IX(s:St):(l:List (Nat×Bool×Ty))->Option (DY l)
 |[]=>some ()
 |(i,b,τ)::r=>match s.obj i with
  |some o=>bif (o.row==b)then(match qF o.τ τ o.x,IX s r with
   |some y,some d=>some (y,d)
   |_,_=>none)else none
  |none=>none
def AV.within(os:List (Nat×Bool×Ty)):AV->Bool
 |.ptr i _=>(lk os i).isSome
 |.view i _=>(lk os i).isSome
 |.d_ _ _ _ _ _=>false
 |.cut _ _ _ _=>false
 |.fn _ a b=>a.within os&&b.within os
 |.cons a b=>a.within os&&b.within os
 |.gh _ a=>a.within os
 |_=>true
def Sh.within(os:List (Nat×Bool×Ty)):Sh->Bool
 |.c a=>a.within os
 |.k _ i _=>(lk os i).isSome
 |.p _ i _ _=>(lk os i).isSome
 |.u i _ _ _ _=>(lk os i).isSome
 |_=>true
def CT(s:St):(m:Option XC)->Option (JB m)
 |none=>some ()
 |some ⟨kt,vt,tm,none⟩=>match s.mp with
  |some m=>bif Nat.beq m.kt kt&&Nat.beq m.vt vt&&tm.all (λt=>nP t m.tm)then some m.kv else none
  |none=>none
 |some ⟨kt,vt,tm,some ti⟩=>match s.mp with
  |some m=>match m.it with
   |some (FR,lf)=>bif Nat.beq m.kt kt&&Nat.beq m.vt vt&&tm.all (λt=>nP t m.tm)&&ti.all (λt=>nP t FR)then some (m.kv,lf)else none
   |none=>none
  |none=>none
def nB.get(sk:nB)(s:St):Option sk.Ff:=
 bif sk.ts.all λx=>x.2.within sk.os then(match ve s sk.ts,IX s sk.os,CT s sk.mp with
  |some a,some b,some c=>some (a,b,c)
  |_,_,_=>none)else none
inductive X where
 |norm
 |exit (id:Nat)
 |ret
@[reducible] def ul:List (X×nB)->Type
 |[]=>Empty
 |[a]=>a.2.Ff
 |a::b::r=>a.2.Ff ⊕ ul (b::r)
def fD{α β R:Type}(o:α ⊕ β)(k:α->Option R)(l:β->Option R):Option R:=
 match o with
 |.inl a=>k a
 |.inr b=>l b
def vo{R:Type}(k:X->St->Option R):(outs:List (X×nB))->ul outs->Option R
 |[],_=>none
 |[a],d=>k a.1 (a.2.fill d)
 |a::b::r,d=>fD d (λd=>k a.1 (a.2.fill d)) (λd=>vo k (b::r) d)
def X.same:X->X->Bool
 |.norm,.norm=>true
 |.ret,.ret=>true
 |.exit i,.exit j=>Nat.beq i j
 |_,_=>false
def QY(e:X)(s:St):(outs:List (X×nB))->Option (ul outs)
 |[]=>none
 |[a]=>bif a.1.same e then a.2.get s else none
 |a::b::r=>bif a.1.same e then(match a.2.get s with|some d=>some (.inl d)|none=>none)
   else match QY e s (b::r)with|some d=>some (.inr d)|none=>none
structure jL where
 ins:nB
 outs:List (X×nB)
 g:Nat->ins.Ff->Option (ul outs)
structure Tu where
 ins:nB
 outs:List (X×nB)
 w:Nat->ins.Ff->(ul outs->Prop)->Option Unit
structure Iter where
 ps:List j3
 a:Ty
 g:aI ps->Option (List a.den)
structure qc5 where
 a:Ty
 tl:List Nat
 ps:List j3
 outs:List X
 g:Nat->List a.den->aI ps->Option (X×aV ps)
def gJ:(ps:List j3)->aI ps->aV ps
 |[],_=>()
 |.v _::ps,d=>gJ ps d.2
 |.r _::ps,d=>gJ ps d.2
 |.c _::ps,d=>gJ ps d.2
 |.t _ _::ps,d=>gJ ps d.2
 |.gm _::ps,d=>gJ ps d.2
 |.cm _ _::ps,d=>(d.1,gJ ps d.2)
 |.m _::ps,d=>(d.1,gJ ps d.2)
 |.mr _ _::ps,d=>(d.1,gJ ps d.2)
def j8:(ps:List j3)->aI ps->aV ps->aI ps
 |[],_,_=>()
 |.v _::ps,d,m=>(d.1,j8 ps d.2 m)
 |.r _::ps,d,m=>(d.1,j8 ps d.2 m)
 |.c _::ps,d,m=>(d.1,j8 ps d.2 m)
 |.t _ _::ps,d,m=>(d.1,j8 ps d.2 m)
 |.gm _::ps,d,m=>(d.1,j8 ps d.2 m)
 |.cm _ _::ps,d,m=>(m.1,j8 ps d.2 m.2)
 |.m _::ps,d,m=>(m.1,j8 ps d.2 m.2)
 |.mr _ _::ps,d,m=>(m.1,j8 ps d.2 m.2)
def wB{R:Type}:List X->X->(X->Option R)->Option R
 |[],_,_=>none
 |x::l,e,k=>bif x.same e then k x else wB l e k
structure Rb where
 τ:Ty
 rs:List fk
 g:τ.den×Unit->Option (bH rs×(τ.den×Unit))
 q:List qu
 ts:List Nat
def Rb.vn(k:Rb):qS:=⟨[.m k.τ],k.rs,k.g⟩
structure xl where
 rest:List j3
 pos:Nat
 τ:Ty
 g:aI rest->τ.den->Option τ.den
structure Lw where
 f:Nat
 n:Nat
 m:Nat
 T:Nat
 p:qS
structure Inl where
 vC:Operand
 ops:List Operand
 ins:nB
 outs:nB
 g:ins.Ff->Option outs.Ff
structure XQ where
 T:Nat
 et:Nat
 OJ:Nat
 Dd:Nat
 pop:List (XK×XK)->Option ((XK×XK)×List (XK×XK))
 push:List (XK×XK)->XK×XK->Option (List (XK×XK))
def AV.Nu:AV->Bool
 |.view _ _=>true
 |_=>false
structure XS where
 f:Nat
 g:Nat
 τ:Ty
 tid:Nat
 e:Ty
 sort:τ.den->List e.den->Option (List e.den)
structure jB where
 nt:Nat
 ty:List (Nat×Ty)
 fl:List (Nat×Ty)
 b_:List (Nat×qS)
 loops:List (Nat×jL)
 maps:List (Nat×Nat×Nat):=[]
 mK:List Nat:=[]
 tS:List (Nat×Iter):=[]
 pQ:List (Nat×qc5):=[]
 iz:List (Nat×zb):=[]
 vI:List (Nat×qS):=[]
 keeps:List (Nat×Rb):=[]
 Sa:List (Nat×xl):=[]
 Vn:List (Nat×nB):=[]
 self:Option Lw:=none
 takes:List (Nat×Nat):=[]
 inl:List (Nat×Inl):=[]
 iM:List Nat:=[]
 sx:Option XQ:=none
 wh:Option XS:=none
 pG:List (Nat×Tu):=[]
def TZ(τ:Option Ty):Value->Option AV
 |.int k n=>some (.val (.int k) n)
 |.bool b=>some (.val .bool b)
 |.slice none 0 0=>match τ with
  |some (.list _ tid e)=>some (.val (.list false tid e) [])
  |_=>none
 |.pointer none=>match τ with
  |some (.ptr e)=>some (.val (.ptr e) none)
  |_=>none
 |.nilFunc=>some .dead
 |.nilIface=>some .dead
 |.map none=>some .dead
 |_=>none
def qQ(s:St)(τ:Option Ty):Operand->Option AV
 |.tmp t=>s.get t
 |.const v=>TZ τ v
 |.func f=>some (.fn f .nil .nil)
 |.global _=>none
def yZ:(τ:Ty)->τ.den->List qu->Option (Σ σ:Ty,σ.den)
 |.pair a b,x,p=>match p with
  |[]=>some ⟨.pair a b,x⟩
  |.L::q=>yZ a x.1 q
  |.R::q=>yZ b x.2 q
  |_=>none
 |.str t,x,p=>match p with
  |[]=>some ⟨.str t,x⟩
  |s::q=>yZ t x (s::q)
 |t,x,p=>match p with
  |[]=>some ⟨t,x⟩
  |_=>none
def AV.frozen(id:Nat)(o:Obj):AV->AV
 |.cons a b=>.cons (a.frozen id o) (b.frozen id o)
 |.fn f a b=>.fn f (a.frozen id o) (b.frozen id o)
 |.ptr i p=>bif Nat.beq i id then(bif o.row then .dead else match yZ o.τ o.x p with
   |some y=>.ref y.1.fz (Mn y.1 y.2)
   |none=>.dead)else .ptr i p
 |.view i p=>bif Nat.beq i id then(match yZ o.τ o.x p with
   |some y=>.val y.1.fz (Mn y.1 y.2)
   |none=>.dead)else .view i p
 |.d_ _ _ _ _ _=>.dead
 |.cut i p z lo=>bif Nat.beq i id then .dead else .cut i p z lo
 |.gh n a=>.gh n (a.frozen id o)
 |a=>a
def St.freeze(s:St)(id:Nat):St:=
 match s.obj id with
 |some o=>⟨s.ts.map λx=>(x.1,x.2.frozen id o),(id,none)::s.os,s.mp⟩
 |none=>s
def St.aQ(s:St):List Nat->St
 |[]=>s
 |i::r=>(s.freeze i).aQ r
def pU{R:Type}(s:St)(a:AV)(τ:Ty)(k:τ.den->Option R):Option R:=
 match a with
 |.val σ x=>qa (qF σ τ x) k
 |.view id p=>match s.obj id with
  |some o=>iS o.τ o.x p λσ y=>qa (qF σ.fz τ (Mn σ y)) k
  |none=>none
 |.ref σ x=>qa (qF (.ptr σ) τ (some x)) k
 |.ptr id p=>match s.obj id with
  |some o=>bif o.row then none else(match yZ o.τ o.x p with
   |some y=>qa (qF (.ptr y.1.fz) τ (some (Mn y.1 y.2))) k
   |none=>none)
  |none=>none
 |_=>none
def YY{R:Type}(s:St)(a:AV)(τ:Ty)(k:τ.den->Option R):Option R:=
 match a with
 |.ref σ x=>qa (qF σ τ x) k
 |.ptr id p=>match s.obj id with
  |some o=>bif o.row then none else(match yZ o.τ o.x p with
   |some y=>qa (qF y.1.fz τ (Mn y.1 y.2)) k
   |none=>none)
  |none=>none
 |.val (.ptr σ) x=>qa x λy=>qa (qF σ τ y) k
 |_=>none
def AV.aK:AV->List Nat
 |.view i _=>[i]
 |.d_ i _ _ _ _=>[i]
 |.cut i _ _ _=>[i]
 |.ptr i _=>[i]
 |.cons a b=>a.aK++b.aK
 |.fn _ a b=>a.aK++b.aK
 |_=>[]
def AV.list:AV->List AV
 |.cons a b=>a::b.list
 |_=>[]
def AV.aY:AV->Bool
 |.cons _ b=>b.aY
 |.nil=>true
 |_=>false
def Mj{R:Type}(s:St):(ps:List j3)->List AV->(aI ps->Option R)->Option R
 |[],[],k=>k ()
 |.v τ::ps,a::l,k=>pU s a τ λx=>Mj s ps l λd=>k (x,d)
 |.r τ::ps,a::l,k=>YY s a τ λx=>Mj s ps l λd=>k (x,d)
 |_,_,_=>none
def YC(r:Ty):(rs:List fk)->bH rs->Option r.den
 |[.v τ],d=>qF τ r d.1
 |_,_=>none
def j3.x_:j3->Bool
 |.t _ _=>false
 |.gm _=>false
 |_=>true
def j3.reads:j3->Bool
 |.v _=>true
 |.r _=>true
 |_=>false
def DA(aa:jB)(s:St)(f:Nat)(first aG:AV)(a r:Ty)(x:a.den):Option r.den:=
 match lk aa.b_ f with
 |some p=>bif p.ps.all j3.reads&&r.az&&first.aY&&aG.aY then Mj s p.ps (first.list ++ .val a x::aG.list) λd=>qa (p.g d) λy=>YC r p.rs y.1 else none
 |none=>none
def Dy(aa:jB)(s:St)(f:Nat)(first aG:AV)(a b r:Ty)(x:a.den)(y:b.den):Option r.den:=
 match lk aa.b_ f with
 |some p=>bif p.ps.all j3.reads&&r.az&&first.aY&&aG.aY then Mj s p.ps (first.list ++ .val a x :: .val b y::aG.list) λd=>qa (p.g d) λy=>YC r p.rs y.1 else none
 |none=>none
def Aw{R:Type}(aa:jB)(s:St)(a:AV)(τ:Ty)(k:τ.den->Option R):Option R:=
 match a with
 |.fn f first aG=>match τ,k with
  |.fn b r,k=>bif (lk aa.b_ f).isSome&&b.ay&&r.ay then k (DA aa s f first aG b r)else none
  |.bQ b c r,k=>bif (lk aa.b_ f).isSome&&b.ay&&c.ay&&r.ay then k (Dy aa s f first aG b c r)else none
  |_,_=>none
 |a=>pU s a τ k
def qb1{R:Type}(aa:jB)(s:St):(ps:List j3)->List AV->(aI ps->Option R)->Option R
 |[],[],k=>k ()
 |.v τ::ps,a::l,k=>Aw aa s a τ λx=>qb1 aa s ps l λd=>k (x,d)
 |.r τ::ps,a::l,k=>YY s a τ λx=>qb1 aa s ps l λd=>k (x,d)
 |.c f::ps,a::l,k=>match a with
  |.fn g .nil .nil=>bif Nat.beq g f then qb1 aa s ps l λd=>k ((),d)else none
  |_=>none
 |.m τ::ps,a::l,k=>match a with
  |.ptr id []=>match s.obj id with
   |some o=>bif o.row then none else qa (qF o.τ τ o.x) λx=>qb1 aa s ps l λd=>k (x,d)
   |none=>none
  |_=>none
 |.gm τ::ps,a::l,k=>match a with
  |.ptr id []=>match s.obj id with
   |some o=>bif o.row then none else qa (qF o.τ τ o.x) λx=>qb1 aa s ps l λd=>k (x,d)
   |none=>none
  |_=>none
 |.cm f τ::ps,a::l,k=>match a with
  |.fn g .nil (.cons (.ptr id []) .nil)=>bif Nat.beq g f then(match s.obj id with
   |some o=>bif o.row then none else qa (qF o.τ τ o.x) λx=>qb1 aa s ps l λd=>k (x,d)
   |none=>none)else none
  |_=>none
 |.t tid e::ps,a::l,k=>match a with
  |.view id []=>match s.obj id with
   |some o=>bif o.row then qa (qF o.τ (.list true tid e) o.x) λx=>qb1 aa s ps l λd=>k (x,d)else none
   |none=>none
  |_=>none
 |.mr tid e::ps,a::l,k=>match a with
  |.view id []=>match s.obj id with
   |some o=>bif o.row then qa (qF o.τ (.list true tid e) o.x) λx=>qb1 aa s ps l λd=>k (x,d)else none
   |none=>none
  |_=>none
 |_,_,_=>none
def qG:List j3->List AV->List Nat
 |.v _::ps,a::l=>a.aK++qG ps l
 |.r _::ps,a::l=>a.aK++qG ps l
 |.c _::ps,_::l=>qG ps l
 |.t _ _::ps,_::l=>qG ps l
 |.gm _::ps,_::l=>qG ps l
 |.cm _ _::ps,_::l=>qG ps l
 |.m _::ps,_::l=>qG ps l
 |.mr _ _::ps,_::l=>qG ps l
 |_,_=>[]
def AV.name:AV->List Nat
 |.ptr i _=>[i]
 |.view i _=>[i]
 |_=>[]
def AV.jd:AV->List Nat
 |.fn _ _ (.cons b _)=>b.name
 |_=>[]
def qI:List j3->List AV->List Nat
 |.v _::ps,_::l=>qI ps l
 |.r _::ps,_::l=>qI ps l
 |.c _::ps,_::l=>qI ps l
 |.t _ _::ps,a::l=>a.name++qI ps l
 |.gm _::ps,a::l=>a.name++qI ps l
 |.cm _ _::ps,a::l=>a.jd++qI ps l
 |.m _::ps,a::l=>a.name++qI ps l
 |.mr _ _::ps,a::l=>a.name++qI ps l
 |_,_=>[]
def j4(n:Nat):List Nat->Bool
 |[]=>false
 |m::r=>Nat.beq m n||j4 n r
def apart:List Nat->List Nat->Bool
 |[],_=>true
 |m::r,l=>!j4 m r && !j4 m l&&apart r l
def qC(s:St):(ps:List j3)->List AV->aV ps->St
 |.v _::ps,_::l,d=>qC s ps l d
 |.r _::ps,_::l,d=>qC s ps l d
 |.c _::ps,_::l,d=>qC s ps l d
 |.m τ::ps,a::l,d=>match a with
  |.ptr id _=>qC ((s.af (AV.bB id false)).setObj id (some ⟨false,τ,d.1⟩)) ps l d.2
  |_=>qC s ps l d.2
 |.t _ _::ps,a::l,d=>match a with
  |.view id _=>qC ((s.kill id).setObj id none) ps l d
  |_=>qC s ps l d
 |.gm _::ps,a::l,d=>match a with
  |.ptr id _=>qC ((s.kill id).setObj id none) ps l d
  |_=>qC s ps l d
 |.cm _ τ::ps,a::l,d=>match a with
  |.fn _ _ (.cons (.ptr id _) _)=>qC ((s.af (AV.bB id false)).setObj id (some ⟨false,τ,d.1⟩)) ps l d.2
  |_=>qC s ps l d.2
 |.mr tid e::ps,a::l,d=>match a with
  |.view id _=>qC ((s.af (AV.bB id true)).setObj id (some ⟨true,.list true tid e,d.1⟩)) ps l d.2
  |_=>qC s ps l d.2
 |_,_,_=>s
def oB(nn:Bool)(n:Nat):Nat:=bif nn then 4000000+n else 7000000+n
def Mu(id:Nat)(nn:Bool):Bool:=bif nn then Nat.ble 4000000 id&&Nat.blt id 7000000 else Nat.ble 7000000 id&&Nat.blt id 10000000
def jM(s:St):(n:Nat)->(rs:List fk)->bH rs->St×AV
 |_,[],_=>(s,.nil)
 |n,.v τ::rs,d=>let q:=jM s (n+1) rs d.2;(q.1,.cons (.val τ d.1) q.2)
 |n,.own tid e::rs,d=>let q:=jM ((s.kill n).setObj n (some ⟨true,.list true tid e,d.1⟩)) (n+1) rs d.2;(q.1,.cons (.view n []) q.2)
 |n,.iu τ::rs,d=>let q:=jM ((s.kill n).setObj n (some ⟨false,τ,d.1⟩)) (n+1) rs d.2;(q.1,.cons (.ptr n []) q.2)
 |n,.sure nn tid e::rs,d=>let q:=jM ((s.kill (oB nn n)).setObj (oB nn n) (some ⟨true,.list true tid e,d.1⟩)) (n+1) rs d.2;(q.1,.cons (.view (oB nn n) []) q.2)
 |n,.ir τ::rs,d=>let q:=jM ((s.kill n).setObj n (some ⟨true,τ,d.1⟩)) (n+1) rs d.2;(q.1,.cons (.view n []) q.2)
def AV.lone:AV->AV
 |.cons a .nil=>a
 |a=>a
def He{R:Type}(aa:jB)(s:St)(dst:Option Nat)(p:qS)(args:List AV)(k:St->Option R):Option R:=
 bif apart (qI p.ps args) (qG p.ps args)&&Nat.blt p.rs.length 1000 then
  qb1 aa s p.ps args λd=>qa (p.g d) λy=>
   let s0:=bif p.rs.all fk.closed&&p.ps.all j3.closed then s else s.aQ (qG p.ps args)
   let q:=jM (qC (s0.af AV.aH) p.ps args y.2) (1000*(dst.getD 0+1)) p.rs y.1
   k (q.1.ah dst q.2.lone)
 else none
def DE{R:Type}(aa:jB)(s:St)(dst:Option Nat)(p:qS)(args:List AV)(alt:Option R)(k:St->Option R):Option R:=alt
def qnJ{R:Type}(aa:jB)(s:St)(dst:Option Nat)(m:zb)(args:List AV)(k:St->Option R):Option R:=
 bif apart (qI m.p.ps args) (qG m.p.ps args)&&Nat.blt m.p.rs.length 1000 then
  qb1 aa s m.p.ps args λd=>qa (m.p.g d) λy=>
   let q:=jM (qC ((s.aQ (qG m.p.ps args)).af AV.aH) m.p.ps args y.2) (1000*(dst.getD 0+1)) m.p.rs y.1
   k (q.1.ah dst (.fn m.f .nil q.2))
 else none
def jk(n:Int):Int:=IntKind.i64.wrap n
def p_{R:Type}(a:Int)(k:Option R):Option R:=if a<0 then none else k
def FV(op:BinOp)(k:IntKind)(x y:Int):Int:=
 match op with
 |.and=>k.wrap (BitVec.ofInt k.bits x &&& BitVec.ofInt k.bits y).toNat
 |.or=>k.wrap (BitVec.ofInt k.bits x ||| BitVec.ofInt k.bits y).toNat
 |.xor=>k.wrap (BitVec.ofInt k.bits x ^^^ BitVec.ofInt k.bits y).toNat
 |_=>k.wrap (BitVec.ofInt k.bits x &&& ~~~ BitVec.ofInt k.bits y).toNat
def Tk(k:IntKind)(x y:Int):Int:=k.wrap (x*2^(min y.toNat k.bits))
def pO(k:IntKind)(x y:Int):Int:=x.fdiv (2^(min y.toNat k.bits))
def WW(a b:List Int):Bool:=a==b
def AZ:Ty->Bool
 |.int _=>true
 |.bool=>true
 |.pair (.int _) b=>AZ b
 |.pair .bool b=>AZ b
 |_=>false
def vD:(τ:Ty)->τ.den->τ.den->Bool
 |.int _,a,b=>@BEq.beq Int _ a b
 |.bool,a,b=>@BEq.beq Bool _ a b
 |.pair s t,a,b=>vD s a.1 b.1&&vD t a.2 b.2
 |_,_,_=>false
def OU{R:Type}(op:BinOp)(tt:Option Ty)(x y:AV)(k:AV->Option R):Option R:=
 match x,y with
 |.val (.int i) a,.val (.int j) b=>match op with
   |.shl=>p_ b (k (.val (.int i) (Tk i a b)))
   |.shr=>p_ b (k (.val (.int i) (pO i a b)))
   |op=>bif (i==j)then(match op with
    |.add=>k (.val (.int i) (i.wrap (a+b)))
    |.sub=>k (.val (.int i) (i.wrap (a-b)))
    |.mul=>k (.val (.int i) (i.wrap (a*b)))
    |.quo=>nzK b (k (.val (.int i) (i.wrap (a.tdiv b))))
    |.rem=>nzK b (k (.val (.int i) (a.tmod b)))
    |.eql=>k (.val .bool (a==b))
    |.neq=>k (.val .bool (a !=b))
    |.lss=>k (.val .bool (decide (a<b)))
    |.leq=>k (.val .bool (decide (a<=b)))
    |.gtr=>k (.val .bool (decide (a>b)))
    |.geq=>k (.val .bool (decide (a>=b)))
    |op=>k (.val (.int i) (FV op i a b)))else none
 |.val .bool a,.val .bool b=>bif (decide (tt=some .bool))then(match op with
   |.eql=>k (.val .bool (a==b))
   |.neq=>k (.val .bool (!(a==b)))
   |_=>none)else none
 |.val (.arr n (.int i)) a,.val (.arr m (.int j)) b=>bif (decide (tt=some (.arr n (.int i)))&&Nat.beq n m&&(i==j))then(match op with
   |.eql=>k (.val .bool (WW a b))
   |.neq=>k (.val .bool (!(WW a b)))
   |_=>none)else none
 |.val (.str τ) a,.val (.str σ) b=>bif (decide (tt=some (.str τ))&&AZ τ)then qa (qF σ τ b) (λb=>match op with
   |.eql=>k (.val .bool (vD τ a b))
   |.neq=>k (.val .bool (!(vD τ a b)))
   |_=>none)else none
 |_,_=>none
def Ht:Option Ty->Bool
 |some (.list _ _ _)=>true
 |_=>false
def qK(nt:Nat):Option Nat->Bool
 |none=>true
 |some d=>Nat.blt d nt
def unK{R:Type}(op:UnOp)(x:AV)(k:AV->Option R):Option R:=
 match op,x with
 |.not,.val .bool a=>k (.val .bool (!a))
 |.neg,.val (.int i) a=>k (.val (.int i) (i.wrap (0-a)))
 |_,_=>none
def QV{R:Type}(s:St)(a:AV)(k:Nat->Option R):Option R:=
 match a with
 |.val (.list _ _ _) l=>k l.length
 |.view id p=>match s.obj id with
  |some o=>iS o.τ o.x p λσ y=>match σ,y with
   |.list _ _ _,l=>k l.length
   |_,_=>none
  |none=>none
 |.d_ _ _ _ _ l=>k l.length
 |_=>none
def Rc{R:Type}(s:St)(a:AV)(e:Ty)(k:List e.den->Option R):Option R:=
 match a with
 |.val (.list o tid σ) l=>qa (qF (.list o tid σ) (.list o tid e) l) k
 |.view id p=>match s.obj id with
  |some o=>iS o.τ o.x p λσ y=>match σ,y with
   |.list b tid σ,l=>qa (qF (.list b tid σ) (.list b tid e) l) k
   |_,_=>none
  |none=>none
 |.d_ _ _ tid σ l=>qa (qF (.list false tid σ) (.list false tid e) l) k
 |_=>none
def MA(s:St)(parts:List (Nat×AV))(a:Ty)(n:Nat):Option (St×a.den):=
 match lk parts n with
 |none=>some (s,a.zero)
 |some (.val σ x)=>match qF σ a x with|some y=>some (s,y)|none=>none
 |some (.ref σ x)=>match qF (.ptr σ) a (some x)with|some y=>some (s,y)|none=>none
 |some (.view id [])=>match s.obj id with
  |some o=>bif o.row then(match qF o.τ.fz a (Mn o.τ o.x)with
    |some y=>some (s.freeze id,y)
    |none=>none)else none
  |none=>none
 |_=>none
def QW(s:St)(parts:List (Nat×AV)):(τ:Ty)->(n:Nat)->Option (St×τ.den)
 |.pair a b,n=>match MA s parts a n with
  |some (s,x)=>match QW s parts b (n+1)with
   |some (s,y)=>some (s,(x,y))
   |none=>none
  |none=>none
 |a,n=>MA s parts a n
def TV(s:St)(parts:List (Nat×AV))(e:Ty):(n len:Nat)->Option (St×List e.den)
 |_,0=>some (s,[])
 |n,len+1=>match MA s parts e n with
  |some (s,x)=>match TV s parts e (n+1) len with
   |some (s,l)=>some (s,x::l)
   |none=>none
  |none=>none
def St.newObj(s:St)(id:Nat)(row:Bool)(τ:Ty)(x:τ.den):St:=(s.kill id).setObj id (some ⟨row,τ,x⟩)
def Ue(s:St)(parts:List (Nat×AV))(a:Ty)(n:Nat):Option (St×a.den):=
 bif a.ay then MA s parts a n else match lk parts n with
 |none=>some (s,a.zero)
 |some (.view id [])=>match s.obj id with
  |some o=>bif o.row then(match qF o.τ a o.x with
    |some y=>some ((s.kill id).setObj id none,y)
    |none=>none)else none
  |none=>none
 |_=>none
def QX(s:St)(parts:List (Nat×AV)):(τ:Ty)->(n:Nat)->Option (St×τ.den)
 |.pair a b,n=>match Ue s parts a n with
  |some (s,x)=>match QX s parts b (n+1)with
   |some (s,y)=>some (s,(x,y))
   |none=>none
  |none=>none
 |a,n=>Ue s parts a n
def Um{R:Type}(op:BinOp)(b:Bool)(k:Bool->Option R):Option R:=
 match op with
 |.eql=>k b
 |.neq=>k (!b)
 |_=>none
def Hl:Operand->Bool
 |.const (.slice none 0 0)=>true
 |_=>false
def Ru(s:St)(id:Nat)(q:List qu):Option (Nat×List qu):=
 match s.obj id with
 |some o=>bif o.row&&q.isEmpty then none else some (id,q)
 |none=>none
def Ge(s:St):List j3->AV->AV->List AV->Option (Nat×List qu)
 |[.mr _ _],.nil,.nil,[.view id q]=>Ru s id q
 |[.mr _ _,.c f],.nil,.nil,[.view id q,.fn g .nil .nil]=>bif Nat.beq g f then Ru s id q else none
 |_,_,_,_=>none
def Zk{R:Type}(s:St)(dst:Option Nat)(tid:Nat)(e:Ty)(g:List e.den×Unit->Option (Unit×(List e.den×Unit)))(id:Nat)(path:List qu)(k:St->Option R):Option R:=
 match s.obj id with
 |some o=>bif e.az && !(o.row&&path.isEmpty)then iS o.τ o.x path λσ y=>qa (qF σ (.list true tid e) y) λl=>qa (g (l,())) λr=>
   iT o.τ o.x path (.list true tid e) r.2.1 λz=>k (((s.af (AV.bB id o.row)).setObj id (some ⟨o.row,o.τ,z⟩)).ah dst .nil)else none
 |none=>none
def qhz{R:Type}(s:St)(dst:Option Nat)(p:qS)(id:Nat)(path:List qu)(k:St->Option R):Option R:=
 match p with
 |⟨[.mr tid e],[],g⟩=>Zk s dst tid e g id path k
 |⟨[.mr tid e,.c _],[],g⟩=>Zk s dst tid e (λd=>g (d.1,((),()))) id path k
 |_=>none
def qnP(τ:Ty)(i:Nat):Option (List qu):=
 match τ with
 |.str t=>bif uI t i then some (lP t i)else none
 |_=>none
def qjt{R:Type}(s:St)(T:Option Ty)(a:AV)(i:Nat)(k:AV->Option R):Option R:=
 match T with
 |none=>none
 |some T=>match qnP T i with
  |none=>none
  |some q=>match a with
   |.ref (.str t) x=>bif (decide (Ty.str t=T))then QZ t x q λσ y=>k (.ref σ y)else none
   |.ptr id p=>match s.obj id with
    |some o=>bif o.row&&p.isEmpty then none else match kq o.τ p with
     |some τ=>bif (decide (τ.fz=T)) && !q.isEmpty then k (.ptr id (p++q))else none
     |none=>none
    |none=>none
   |_=>none
def qgg{R:Type}(s:St)(T:Option Ty)(a:AV)(i:Int)(k:AV->Option R):Option R:=
 match a with
 |.val (.list _o tid e) l=>bif (decide (T=some (.list false tid e.fz)))then qn l i λy=>k (.ref e y)else none
 |.ref (.arr n e) l=>bif (decide (T=some (.arr n e)))then qn l i λy=>k (.ref e y)else none
 |.view id p=>match s.obj id with
  |some o=>iS o.τ o.x p λσ y=>match σ,y with
   |.list own tid e,l=>bif own&&(decide (T=some (.list false tid e.fz)))then bx i l.length (k (.ptr id (p++[.I i])))else none
   |_,_=>none
  |none=>none
 |.ptr id p=>match s.obj id with
  |some o=>bif o.row&&p.isEmpty then none else match kq o.τ p with
   |some (.arr n e)=>bif (decide (T=some (.arr n e.fz)))then bx i n (k (.ptr id (p++[.I i])))else none
   |_=>none
  |none=>none
 |_=>none
def Ts{R:Type}(s:St)(T:Option Ty)(a:AV)(k:AV->Option R):Option R:=
 match a with
 |.ref σ x=>bif (decide (T=some σ))then k (.val σ x)else none
 |.ptr id p=>match s.obj id with
  |some o=>bif o.row&&p.isEmpty then none else match kq o.τ p with
   |some σ=>bif (decide (T=some σ.fz))then(bif σ.ay then iS o.τ o.x p λσ y=>k (.val σ y)else k (.view id p))else none
   |none=>none
  |none=>none
 |_=>none
def Mh{R:Type}:List qu->List qu->Option R->Option R
 |[],[],k=>k
 |.L::p,.L::q,k=>Mh p q k
 |.R::p,.R::q,k=>Mh p q k
 |.I i::p,.I j::q,k=>eqK i j (Mh p q k)
 |_,_,_=>none
def Aq{R:Type}(s:St)(T:Option Ty)(a v:AV)(k:St->Option R):Option R:=
 match a with
 |.ptr id p=>match s.obj id with
  |some o=>bif o.row&&p.isEmpty then none else match kq o.τ p with
   |none=>none
   |some τ=>bif (decide (T=some τ.fz))then(match v with
    |.d_ id' p' tid e l=>bif Nat.beq id id' then Mh p p' (iT o.τ o.x p (.list true tid e) l λz=>
      k ((s.af (AV.cE id o.row o.τ p)).setObj id (some ⟨o.row,o.τ,z⟩)))else none
    |.view dX []=>bif Nat.beq id dX then none else match s.obj dX with
     |some o2=>bif o2.row then(bif τ.ay then
       (let s:=s.freeze dX
       iT o.τ o.x p o2.τ.fz (Mn o2.τ o2.x) λz=>k ((s.af (AV.cE id o.row o.τ p)).setObj id (some ⟨o.row,o.τ,z⟩)))
       else iT o.τ o.x p o2.τ o2.x λz=>k ((((s.kill dX).af (AV.cE id o.row o.τ p)).setObj dX none).setObj id (some ⟨o.row,o.τ,z⟩)))else none
     |none=>none
    |.val σ y=>bif σ.ay then iT o.τ o.x p σ y λz=>k ((s.af (AV.cE id o.row o.τ p)).setObj id (some ⟨o.row,o.τ,z⟩))else none
    |.ref σ y=>bif σ.ay then iT o.τ o.x p (.ptr σ) (some y) λz=>k ((s.af (AV.cE id o.row o.τ p)).setObj id (some ⟨o.row,o.τ,z⟩))else none
    |_=>none)else none
  |none=>none
 |_=>none
def Rs{R:Type}(s:St)(dst:Option Nat)(x:Operand)(a:AV)(k:St->Option R):Option R:=
 match x,a with
 |.const _,.val (.list _ tid e) l=>match dst with
  |some d=>bif e.aD then k ((s.newObj d true (.list true tid e) l).set d (.view d []))else none
  |none=>none
 |_,.d_ id [] tid e l=>match s.obj id with
  |some o=>bif o.row&&Nat.blt id 4000000 then(match qF o.τ (.list true tid e) o.x with
   |some _=>k (((s.kill id).setObj id (some ⟨true,.list true tid e,l⟩)).ah dst (.view id []))
   |none=>none)else(match dst with
   |some d=>bif o.row && !Nat.beq id d then k ((((s.kill id).setObj id none).newObj d true (.list true tid e) l).set d (.view d []))else none
   |none=>none)
  |none=>none
 |_,a=>k (s.ah dst a)
def qmR{R:Type}(s:St)(T:Option Ty)(a:AV)(lo hi:Option Int)(k:AV->Option R):Option R:=
 match a with
 |.val (.list own tid e) l=>bif !own&&(decide (T=some (.list false tid e)))then(match lo,hi with
   |none,none=>k (.val (.list false tid e) l)
   |some i,none=>bO 0 i (bO i l.length (k (.val (.list false tid e) (l.drop i.toNat))))
   |none,some j=>bO 0 j (bO j l.length (k (.val (.list false tid e) (l.take j.toNat))))
   |some i,some j=>bO 0 i (bO i j (bO j l.length (k (.val (.list false tid e) ((l.take j.toNat).drop i.toNat))))))else none
 |.view id p=>match s.obj id with
  |some o=>iS o.τ o.x p λσ y=>match σ,y with
   |.list own tid e,l=>bif own&&e.ay&&(decide (T=some (.list false tid e)))then(match lo,hi with
    |none,some j=>bO 0 j (bO j l.length (k (.d_ id p tid e (l.take j.toNat))))
    |some i,none=>bO 0 i (bO i l.length (k (.cut id p e.size i)))
    |_,_=>none)else none
   |_,_=>none
  |none=>none
 |_=>none
def Dr:AV->Option (Nat×Int)
 |.view id []=>some (id,0)
 |.cut id [] z lo=>bif Nat.beq z 1 then some (id,lo)else none
 |_=>none
def sH{α:Type}(l l2:List α)(lo:Nat):List α:=l.take lo++l2.take (l.length-lo)++l.drop (lo+min l2.length (l.length-lo))
def Lt{R:Type}(s:St)(T:Option Ty)(dst:Option Nat)(a b:AV)(k:St->Option R):Option R:=
 match T with
 |some (.list _ tid e)=>bif e.az&&Nat.beq e.size 1 then(match Dr a with
  |some (id,lo)=>match s.obj id with
   |some o=>bif o.row then qa (qF o.τ (.list true tid e) o.x) λl=>Rc s b e λl2=>
     k (((s.af (AV.bB id true)).setObj id (some ⟨true,.list true tid e,sH l l2 lo.toNat⟩)).ah dst (.val (.int .i64) ((min l2.length (l.length-lo.toNat):Nat):Int)))else none
   |none=>none
  |none=>none)else none
 |_=>none
def DB{R:Type}(s:St)(T:Option Ty)(dst:Option Nat)(a:AV)(k:St->Option R):Option R:=none
def qoa{R:Type}(s:St)(T:Option Ty)(dst:Option Nat)(x:Operand)(a b:AV)(k:St->Option R):Option R:=
 match T with
 |some (.list _ tid e)=>bif e.aD then(match a with
  |.val (.list _ _ _) _=>match x with
   |.const _=>Rc s b e λl2=>qo l2.length (match dst with
     |some d=>k ((s.newObj d true (.list true tid e) l2).set d (.view d []))
     |none=>none)
   |_=>none
  |.view id p=>match s.obj id with
   |some o=>iS o.τ o.x p λσ y=>qa (qF σ (.list true tid e) y) λl=>
     Rc s b e λl2=>qo (l.length+l2.length) (k ((s.af (AV.js id o.row p)).ah dst (.d_ id p tid e (l++l2))))
   |none=>none
  |_=>none)else none
 |_=>none
def qht:AV->Nat->Option AV
 |.cons a _,0=>some a
 |.cons _ b,i+1=>qht b i
 |_,_=>none
def zg(s:St)(τ:Nat->Option Ty):List Operand->Nat->Option (List AV)
 |[],_=>some []
 |x::r,i=>match qQ s (τ i) x,zg s τ r (i+1)with
  |some a,some l=>some (a::l)
  |_,_=>none
def AV.ofList:List AV->AV
 |[]=>.nil
 |a::l=>.cons a (ofList l)
def intOf:AV->Option Int
 |.val (.int _) n=>some n
 |_=>none
def Mr(s:St):Option Operand->Option (Option Int)
 |none=>some none
 |some x=>match(qQ s none x).bind intOf with
  |some n=>some (some n)
  |none=>none
def Az(aa:jB)(dst:Option Nat)(T:Option Ty):Option Ty:=
 match dst with
 |some d=>match lk aa.fl d with
  |some τ=>bif (decide (some τ.fz=T))then some τ else none
  |none=>T
 |none=>none
def GR(aa:jB)(dst:Option Nat)(T:Option Ty):Option Ty:=
 match dst with
 |some d=>match lk aa.fl d with
  |some τ=>some τ
  |none=>T
 |none=>none
end Go.Vi
namespace Go.Vi
def ug(s:St)(x:Operand):St:=
 match qQ s none x with
 |some (.view id p)=>match s.obj id with
  |some o=>bif o.row&&p.isEmpty then s else s.freeze id
  |none=>s
 |_=>s
def fe(aa:jB)(s:St)(d:Option Nat)(x:Operand):St:=
 match d.bind (lk aa.fl)with
 |some .bool=>s
 |some (.ptr .bool)=>s
 |some _=>match qQ s none x with
  |some (.view id _)=>s.freeze id
  |_=>s
 |none=>s
def dF(aa:jB)(s:St)(d:Option Nat)(x:Operand):St:=
 match d with
 |some d=>bif j4 (8000000+d) aa.mK then(match qQ s none x with
  |some (.ptr id _)=>s.freeze id
  |_=>s)else s
 |none=>s
def St.fO(s:St):Operand->St
 |.tmp t=>match s.get t with
  |some (.d_ id [] tid e l)=>match s.obj id with
   |some o=>bif o.row&&Nat.blt id 4000000 then(s.newObj id true (.list true tid e) l).set t (.view id [])else s
   |none=>s
  |_=>s
 |_=>s
def dP(s:St):List Operand->St
 |[]=>s
 |x::r=>dP (s.fO x) r
def qkX{R:Type}(s:St)(dst:Option Nat)(x:Operand)(a:AV)(k:St->Option R):Option R:=
 match x,a,dst with
 |.const _,.val (.list _ tid e) _,some d=>bif e.aD then k ((s.newObj (7000000+d) true (.list true tid e) []).set d (.view (7000000+d) []))else none
 |_,_,_=>Rs s dst x a k
def qjg:Option Ty->Bool
 |some .bool=>true
 |_=>false
def TK(aa:jB)(d:Nat):Nat:=bif j4 (1000000+d) aa.mK then 4000000+d else d
def qkW(s:St)(a:AV):Option Bool:=
 match a with
 |.view id []=>match s.obj id with
  |some o=>bif o.row then(bif Mu id true then some false else bif Mu id false then some true else none)else none
  |none=>none
 |_=>none
def qjf:Option Ty->Bool
 |some (.ptr .bool)=>true
 |_=>false
def qi4{R:Type}(s:St)(dst:Option Nat)(x:Operand)(a:AV)(k:St->Option R):Option R:=
 match a,dst with
 |.view id [],some d=>match s.obj id with
  |some o=>bif o.row && !Nat.beq id d then k ((((s.kill id).setObj id none).newObj d true o.τ o.x).set d (.view d []))else Rs s dst x a k
  |none=>none
 |_,_=>Rs s dst x a k
def qjD{R:Type}(aa:jB)(s:St)(dst:Option Nat)(type:TypeId)(x:Operand)(k:St->Option R):Option R:=
 match qQ s (lk aa.ty type) x with
 |some a=>bif qjg (dst.bind (lk aa.fl))then qkX s dst x a k else bif qjf (dst.bind (lk aa.fl))then qi4 s dst x a k else bif (dst.bind (lk aa.fl)).isSome then k (s.ah dst a)else Rs s dst x a k
 |none=>none
def qlV(s:St):AV->Bool
 |.ptr id p=>match s.obj id with
  |some o=>match kq o.τ p with
   |some (.list true _ _)=>true
   |_=>false
  |none=>false
 |_=>false
def qj0{R:Type}(s:St)(T:Option Ty)(a:AV)(k:St->Option R):Option R:=
 match a with
 |.ptr id p=>match s.obj id with
  |some o=>match kq o.τ p with
   |some (.list true tid e)=>bif (decide (T=some (.list false tid e.fz)))then iT o.τ o.x p (.list true tid e) [] λz=>k ((s.af (AV.cE id o.row o.τ p)).setObj id (some ⟨o.row,o.τ,z⟩))else none
   |_=>none
  |none=>none
 |_=>none
def qiE(s:St)(a v:Operand):Option (Nat×List qu):=
 match qQ s none a,qQ s none v with
 |some (.ptr id p),some (.view dX q)=>bif Nat.beq id dX&&rW p q then some (id,p)else none
 |_,_=>none
def AB{R:Type}(s:St)(T:Option Ty)(id:Nat)(p:List qu)(k:St->Option R):Option R:=
 match s.obj id with
 |some o=>bif o.row&&p.isEmpty then none else match kq o.τ p with
  |some (.list true tid e)=>bif e.ay&&decide (T=some (.list false tid e.fz))then iS o.τ o.x p λσ y=>iT o.τ o.x p σ y λz=>k ((s.af (AV.cE id o.row o.τ p)).setObj id (some ⟨o.row,o.τ,z⟩))else none
  |some τ=>bif decide (T=some τ.fz)then k s else none
  |none=>none
 |none=>none
def Ub:Option Ty->Bool
 |some (.ptr _)=>true
 |_=>false
def qlk{R:Type}(aa:jB)(s:St)(dst:Option Nat)(T:TypeId)(i n:Nat)(k:St->Option R):Option R:=
 bif Nat.beq i 2&&(Nat.beq (n/1000) 1&&Ub (lk aa.ty T))then(match s.obj (10000000+n%1000)with
  |some o=>bif o.row then none else k (s.ah dst (.ptr (10000000+n%1000) []))
  |none=>none)else none
def qkv{R:Type}(aa:jB)(s:St)(dst:Option Nat)(T:TypeId)(m:Nat)(e:Ty)(l:List e.den)(lo hi:Option Int)(k:St->Option R):Option R:=
 match lo,hi,dst.bind (lk aa.fl)with
 |none,none,some (.list false tid _)=>bif decide (lk aa.ty T=some (.arr m e))then k (s.ah dst (.val (.list false tid e) l))else none
 |_,_,_=>none
def YX{R:Type}(aa:jB)(s:St)(dst:Option Nat)(T:TypeId)(x:Operand)(lo hi mx:Option Operand)(k:St->Option R):Option R:=
 match qQ s none x,Mr s lo,Mr s hi,mx with
 |some x,some lo,some hi,none=>(match x with
  |.ref (.arr m e) l=>qkv aa s dst T m e l lo hi k
  |x=>qmR s (lk aa.ty T) x lo hi λv=>k (s.ah dst v))
 |_,_,_,_=>none
def AJ(aa:jB):Operand->Bool
 |.tmp t=>j4 (6000000+t) aa.mK
 |_=>false
def reK{R:Type}(s:St)(T:Option Ty)(a v:AV)(k:St->Option R):Option R:=none
def qm0{R:Type}(s:St)(T:Option Ty)(a:AV)(k:St->Option R):Option R:=none
def Ad(aa:jB):Operand->Option Nat
 |.tmp t=>lk aa.takes t
 |_=>none
def qf4{R:Type}(s:St)(T:Option Ty)(a:AV)(t:Nat)(k:St->Option R):Option R:=
 match a,s.get t with
 |.ptr id p,some (.view id' p')=>match s.obj id with
  |some o=>bif Nat.beq id id' then Mh p p' (iS o.τ o.x p λσ y=>match σ,y with
    |.list true tid e,l=>bif e.ay&&(e.aD&&decide (T=some (.list false tid e)))then iT o.τ o.x p (.list true tid e) [] λz=>
      k ((((s.af (AV.cE id o.row o.τ p)).setObj id (some ⟨o.row,o.τ,z⟩)).af AV.aH).set t (.val (.list false tid e) l))else none
    |_,_=>none)else none
  |none=>none
 |_,_=>none
def qf5{R:Type}(s:St)(T:Option Ty)(a v:AV)(t:Nat)(k:St->Option R):Option R:=
 match a,v,s.get t with
 |.ptr id p,.view dX [],some (.d_ id' q tid e l)=>match s.obj id,s.obj dX with
  |some o,some o2=>bif !o.row&&(o2.row&&(!Nat.beq id dX&&(Nat.beq id id'&&(!p.any qu.dW&&(!q.any qu.dW&&(kW p q&&(kX o.τ p q&&(e.aM&&decide (T=some o2.τ.fz)))))))))then
    iT o.τ o.x p o2.τ o2.x λz=>k (((((s.kill dX).setObj dX none).af (AV.cE id o.row o.τ p)).setObj id (some ⟨o.row,o.τ,z⟩)).set t (.d_ id' q tid e l))else none
  |_,_=>none
 |_,_,_=>none
def aaa(s:St):Option Nat->Option Nat
 |some t=>(match s.get t with
  |some (.d_ _ _ _ _ _)=>some t
  |_=>none)
 |none=>none
def qkD{R:Type}(aa:jB)(s:St)(dst:Option Nat)(T:TypeId)(a v:Operand)(k:St->Option R):Option R:=
 match qQ s none a,qQ s (lk aa.ty T) v with
 |some b,some w=>bif AJ aa a then(bif Hl v then qm0 s (lk aa.ty T) b λs=>k (s.ah dst .dead)else reK s (lk aa.ty T) b w λs=>k (s.ah dst .dead))else bif Hl v&&qlV s b then(match Ad aa a with
  |some t=>qf4 s (lk aa.ty T) b t λs=>k (s.ah dst .dead)
  |none=>qj0 s (lk aa.ty T) b λs=>k (s.ah dst .dead))else(match aaa s (Ad aa a)with
  |some t=>qf5 s (lk aa.ty T) b w t λs=>k (s.ah dst .dead)
  |none=>Aq s (lk aa.ty T) b w λs=>k (s.ah dst .dead))
 |_,_=>none
def qhi{R:Type}(s:St)(dst:Option Nat)(kp:Rb)(l:List AV)(k:St->Option R):Option R:=none
def qi8{R:Type}(aa:jB)(s:St)(dst:Option Nat)(mp:xl)(l:List AV)(k:St->Option R):Option R:=none
def qg8{R:Type}(aa:jB)(s:St)(dst:Option Nat)(i f n:Nat)(l:List AV)(k:St->Option R):Option R:=none
def qmT(aa:jB)(T:Nat):Bool:=
 match aa.self with
 |some sp=>Nat.beq T sp.T
 |none=>false
def TT:Operand->Operand->Bool
 |.tmp a,.tmp b=>Nat.beq a b
 |.func a,.func b=>Nat.beq a b
 |.const (.bool a),.const (.bool b)=>a==b
 |.const (.int i a),.const (.int j b)=>(i==j)&&(a==b)
 |_,_=>false
def TX:List Operand->List Operand->Bool
 |[],[]=>true
 |a::l,b::r=>TT a b&&TX l r
 |_,_=>false
def Vo{R:Type}(s:St)(il:Inl)(f:Operand)(ops:List Operand)(k:St->Option R):Option R:=
 bif TT f il.vC&&TX ops il.ops then(match il.ins.get s with
  |some d=>qa (il.g d) λy=>k (il.outs.fill y)
  |none=>none)else none
abbrev nK:Ty:=.str (.pair (.int .i64) (.int .i64))
abbrev FQ:Ty:=.str (.pair nK nK)
def lN:Int->Bool
 |.ofNat m=>Nat.ble m 9223372036854775807
 |.negSucc m=>Nat.ble m 9223372036854775807
def dR{R:Type}(n:Int)(k:Option R):Option R:=bif lN n then k else none
def Df{R:Type}(s:St)(a:AV)(k:(n i j:Nat)->qc6 n->Option R):Option R:=
 match a with
 |.val (.ext _ n i j) x=>bif Nat.beq n 0 then k n i j x else none
 |.view id p=>match s.obj id with
  |some o=>iS o.τ o.x p λσ y=>match σ,y with
   |.ext true n i j,y=>k n i j y
   |_,_=>none
  |none=>none
 |_=>none
def JN:Nat->Ty
 |0=>nK
 |_=>.int .i64
def Is{R:Type}(b:AV)(k:XK->Option R):Option R:=
 match b with
 |.val τ x=>qa (qF τ nK x) λq:XK=>dR q.1 (dR q.2 (k q))
 |_=>none
def Vd{R:Type}(q:XK)(ok:Bool)(k:AV->Option R):(n:Nat)->qc6 n->Option R
 |0,y=>qa (α:=List (XK×XK)) y λl=>bif ok then k (.cons (.val nK ((jE l q).getD ((0:Int),(0:Int)))) (.cons (.val .bool (jE l q).isSome) .nil))else k (.val nK ((jE l q).getD ((0:Int),(0:Int))))
 |1,y=>qa (α:=List (XK×Int)) y λl=>bif ok then k (.cons (.val (.int .i64) ((jE l q).getD (0:Int))) (.cons (.val .bool (jE l q).isSome) .nil))else k (.val (.int .i64) ((jE l q).getD (0:Int)))
 |_,_=>none
def BJ{R:Type}(aa:jB)(s:St)(dst:Option Nat)(T:TypeId)(a b:AV)(ok:Bool)(k:St->Option R):Option R:=
 Df s a λn i j y=>bif j4 i aa.iM&&(decide (lk aa.ty T=some (.ext false n i j))&&decide (lk aa.ty j=some (JN n)))then Is b λq=>Vd q ok (λv=>k (s.ah dst v)) n y else none
def UK{R:Type}(q:XK)(v:AV):(n:Nat)->qc6 n->(qc6 n->Option R)->Option R
 |0,y,k=>qa (α:=List (XK×XK)) y λl=>match v with
  |.val τ u=>qa (qF τ nK u) λu:XK=>qo l.length (k (some (ep l q u):Option (List (XK×XK))))
  |_=>none
 |1,y,k=>qa (α:=List (XK×Int)) y λl=>match v with
  |.val τ u=>qa (qF τ (.int .i64) u) λu:Int=>qo l.length (k (some (ep l q u):Option (List (XK×Int))))
  |_=>none
 |_,_,_=>none
def Bh{R:Type}(aa:jB)(s:St)(dst:Option Nat)(T:TypeId)(a b v:AV)(k:St->Option R):Option R:=
 match a with
 |.view id p=>match s.obj id with
  |some o=>iS o.τ o.x p λσ y=>match σ,y with
   |.ext true n i j,y=>bif j4 i aa.iM&&decide (lk aa.ty T=some (.ext false n i j))then Is b λq=>UK q v n y λy'=>
     iT o.τ o.x p (.ext true n i j) y' λz=>k (((s.af (AV.bB id o.row)).setObj id (some ⟨o.row,o.τ,z⟩)).ah dst .dead)else none
   |_,_=>none
  |none=>none
 |_=>none
def iD(s:St)(x:Operand):St:=
 match qQ s none x with
 |some (.view id _)=>s.freeze id
 |_=>s
def qkJ{R:Type}(aa:jB)(s:St)(dst:Option Nat)(T:TypeId)(x:Operand)(k:St->Option R):Option R:=
 match dst,qQ s none x with
 |some d,some (.val (.ext false 0 i j) y)=>bif j4 i aa.iM&&decide (lk aa.ty T=some (.ext false 0 i j))then qa (α:=List (XK×XK)) y λl=>
   k ((s.newObj d true (.ext true 3 i j) (l,none)).set d (.view d []))else none
 |_,_=>none
noncomputable def Mm{R:Type}(l:List (XK×XK))(k0:Option R)(k:XK×XK->Option R):Option R:=
 match l with
 |[]=>k0
 |x::r=>GF (λy:XK×XK=>y∈x::r) k
noncomputable def qng{R:Type}(aa:jB)(s:St)(dst:Option Nat)(x:Operand)(k:St->Option R):Option R:=
 match qQ s none x with
 |some (.view id [])=>match s.obj id with
  |some ⟨true,.ext true 3 i j,y⟩=>bif j4 i aa.iM then(let z:List (XK×XK)×Option (XK×XK):=y
    Mm z.1 (k (s.ah dst (.cons (.val .bool false) .nil))) λu=>
     k (((s.af (AV.bB id true)).setObj id (some ⟨true,.ext true 3 i j,(ij u.1 z.1,some u)⟩)).ah dst (.cons (.val .bool true) (.cons (.val nK u.1) (.cons (.val nK u.2) .nil)))))else none
  |_=>none
 |_=>none
def qlg{R:Type}(s:St)(dst:Option Nat)(x:Operand)(k:St->Option R):Option R:=
 match qQ s none x with
 |some (.view id [])=>match s.obj id with
  |some ⟨true,.ext true 3 _ _,y⟩=>(let z:List (XK×XK)×Option (XK×XK):=y
    qa z.2 λu=>k (s.ah dst (.cons (.val nK u.1) (.cons (.val nK u.2) .nil))))
  |_=>none
 |_=>none
def qi9{R:Type}(aa:jB)(s:St)(dst:Option Nat)(T:TypeId)(k:St->Option R):Option R:=
 match dst,lk aa.ty T with
 |some d,some (.ext false 0 i j)=>bif j4 i aa.iM then k ((s.newObj d true (.ext true 0 i j) (some []:Option (List (XK×XK)))).set d (.view d []))else none
 |some d,some (.ext false 1 i j)=>bif j4 i aa.iM then k ((s.newObj d true (.ext true 1 i j) (some []:Option (List (XK×Int)))).set d (.view d []))else none
 |_,_=>none
def zM{R:Type}(aa:jB)(s:St)(dst:Option Nat)(T:TypeId)(x:Operand)(k:St->Option R):Option R:=
 match dst,aa.sx,qQ s none x with
 |_,some q,some (.val τ y)=>bif Nat.beq T q.et then qa (qF τ FQ y) λy:XK×XK=>k (s.ah dst (.val (.ext false 2 q.et 0) y))else none
 |some d,some q,some (.ptr id [])=>match s.obj id with
  |some o=>bif !o.row&&Nat.beq T q.T then qa (qF o.τ (.list true q.et FQ) o.x) λl:List (XK×XK)=>
    k ((((s.kill id).setObj id none).newObj d true (.ext true 4 q.T q.et) (some l:Option (List (XK×XK)))).set d (.view d []))else none
  |none=>none
 |_,_,_=>none
def qlp{R:Type}(aa:jB)(s:St)(dst:Option Nat)(x:Operand)(T:TypeId)(k:St->Option R):Option R:=
 match aa.sx,qQ s none x with
 |some q,some (.val (.ext false 2 i _) y)=>bif Nat.beq i T&&Nat.beq q.et T then(let y:XK×XK:=y
   k (s.ah dst (.val FQ y)))else none
 |_,_=>none
def Tx{R:Type}(aa:jB)(s:St)(a:AV)(k:XQ->(id:Nat)->(p:List qu)->List (XK×XK)->Option R):Option R:=
 match aa.sx,a with
 |some q,.view id p=>match s.obj id with
  |some o=>bif o.row&&p.isEmpty then none else iS o.τ o.x p λσ y=>qa (qF σ (.ext true 4 q.T q.et) y) λy:Option (List (XK×XK))=>qa y λl=>k q id p l
  |none=>none
 |_,_=>none
def YG{R:Type}(s:St)(q:XQ)(id:Nat)(p:List qu)(l:List (XK×XK))(k:St->Option R):Option R:=
 match s.obj id with
 |some o=>iT o.τ o.x p (.ext true 4 q.T q.et) (some l:Option (List (XK×XK))) λz=>k ((s.af (AV.bB id o.row)).setObj id (some ⟨o.row,o.τ,z⟩))
 |none=>none
def qkL{R:Type}(aa:jB)(s:St)(dst:Option Nat)(x:Operand)(k:St->Option R):Option R:=
 match qQ s none x with
 |some a=>Tx aa s a λ_ _ _ l=>k (s.ah dst (.val (.int .i64) (l.length:Int)))
 |none=>none
def qiU{R:Type}(aa:jB)(s:St)(dst:Option Nat)(f:Nat)(l:List AV)(k:St->Option R):Option R:=
 match aa.sx,l with
 |some q,[a]=>bif Nat.beq f q.OJ then Tx aa s a λq id p l=>qa (q.pop l) λr=>YG s q id p r.2 λs=>k (s.ah dst (.val (.ext false 2 q.et 0) r.1))else none
 |some q,[a,b]=>bif Nat.beq f q.Dd then Tx aa s a λq id p l=>(match b with
   |.val τ y=>qa (qF τ (.ext false 2 q.et 0) y) λy:XK×XK=>qa (q.push l y) λr=>YG s q id p r λs=>k (s.ah dst .nil)
   |_=>none)else none
 |_,_=>none
def qg7{R:Type}(aa:jB)(s:St)(dst:Option Nat)(q:XS)(f:Nat)(l:List AV)(k:St->Option R):Option R:=
 match l with
 |[a,.fn g .nil (.cons (.ref τ x) .nil)]=>bif Nat.beq f q.f&&Nat.beq g q.g then
   qa (qF τ q.τ x) λx=>He aa s dst ⟨[.mr q.tid q.e],[],λd=>(q.sort x d.1).map λl=>((),(l,()))⟩ [a] k
  else none
 |_=>none
def Yy{R:Type}(aa:jB)(s:St)(dst:Option Nat)(f:Operand)(c:Call)(k:St->Option R):Option R:=
 match dst.bind (lk aa.inl)with
 |some il=>Vo s il f c.args.toList k
 |none=>match qQ s none f,zg s (λi=>(c.argTypes[i]?).bind (lk aa.ty)) c.args.toList 0 with
 |some (.fn f first aG),some l=>match lk aa.b_ f with
  |some p=>match Ge s p.ps first aG l with
   |some (id,path)=>qhz s dst p id path k
   |none=>bif first.aY&&aG.aY then(match lk aa.vI f with
    |some q=>DE aa s dst q (first.list++l++aG.list) (He aa s dst p (first.list++l++aG.list) k) k
    |none=>He aa s dst p (first.list++l++aG.list) k)else none
  |none=>match lk aa.iz f with
   |some m=>bif first.aY&&aG.aY then qnJ aa s dst m (first.list++l++aG.list) k else none
   |none=>match lk aa.keeps f with
    |some kp=>bif first.aY&&aG.aY then qhi s dst kp (first.list++l++aG.list) k else none
    |none=>match lk aa.Sa f with
     |some mp=>bif first.aY&&aG.aY then qi8 aa s dst mp (first.list++l++aG.list) k else none
     |none=>match first,aG with
      |.nil,.nil=>(match aa.wh with
       |some q=>qg7 aa s dst q f l k
       |none=>qiU aa s dst f l k)
      |_,_=>none
 |some (.cv i f n),some l=>qg8 aa s dst i f n l k
 |some (.val (.fn a r) g),some [x]=>bif r.az then pU s x a λx=>qa (g x) λy=>k (s.ah dst (.val r y))else none
 |some (.val (.bQ a b r) g),some [x,y]=>bif r.az then pU s x a λx=>pU s y b λy=>qa (g x y) λz=>k (s.ah dst (.val r z))else none
 |_,_=>none
def qmL(aa:jB)(s:St)(d:Option Nat)(T:TypeId)(a:AV):Option St:=
 match d with
 |none=>none
 |some d=>match lk aa.fl d with
  |none=>none
  |some _=>match a with
   |.ptr id []=>match s.obj id with
    |some o=>bif !o.row&&(TB o.τ&&decide (lk aa.ty T=some o.τ.fz))then some ((((s.kill id).setObj id none).newObj d true o.τ o.x).set d (.view d []))else none
    |none=>none
   |_=>none
def BQ(aa:jB)(T:TypeId):Option Ty:=
 match lk aa.ty T with
 |some (.ext false 5 tid _)=>(match lk aa.ty tid with
  |some e=>some (.list false tid e)
  |none=>none)
 |x=>x
def TN(aa:jB)(c:Call):Option Nat:=
 match c.argTypes.toList with
 |[T,T']=>(match lk aa.ty T with
  |some (.ext false 5 tid _)=>bif Nat.beq T T' then some tid else none
  |_=>none)
 |_=>none
def qmA{R:Type}(aa:jB)(s:St)(dst:Option Nat)(tid:Nat)(a b:AV)(k:St->Option R):Option R:=
 match dst,lk aa.ty tid,a with
 |some d,some e,.view id p=>match s.obj id with
  |some o=>bif !o.row&&(!p.any qu.dW&&Nat.beq e.size 1)then iS o.τ o.x p λσ y=>(match σ,y with
   |.ext true 5 i j,y=>bif Nat.beq i tid then(let y:Option Nat:=y
     qa y λn=>Rc s b e λl2=>qo ((n:Int)+(l2.length:Int)) (iT o.τ o.x p (.ext true 5 i j) (none:Option Nat) λz=>
      k ((((s.af (AV.lJ id)).setObj id (some ⟨o.row,o.τ,z⟩)).newObj d true (.ext true 5 i j) (some (n+l2.length):Option Nat)).set d (.view d []))))else none
   |_,_=>none)else none
  |none=>none
 |_,_,_=>none
def qmB{R:Type}(aa:jB)(s:St)(dst:Option Nat)(tid:Nat)(c:Call)(k:St->Option R):Option R:=
 match c.args.toList with
 |[x,y]=>match qQ s none x,qQ s none y with
  |some a,some b=>qmA aa s dst tid a b k
  |_,_=>none
 |_=>none
def qf6{R:Type}(aa:jB)(d:Option Nat)(k:St->Option R)(s:St):Option R:=
 match d with
 |none=>k s
 |some d=>match lk aa.fl d with
  |none=>k s
  |some _=>k (s.fO (.tmp d))
def St.CS(s s':St)(id d:Nat):St:=
 match s.get Ol with
 |some (.gh n (.view j []))=>bif Nat.beq j id then s'.set Ol (.gh n (.view d []))else s'
 |_=>s'
def qkO{R:Type}(s:St)(id:Nat)(p:List qu)(k:Option R):Option R:=
 match s.obj id with
 |some o=>iS o.τ o.x p λσ y=>match σ,y with
  |.op _,y=>qa y λ_=>k
  |_,_=>none
 |none=>none
def qjC{R:Type}(s:St)(dst:Option Nat)(T:Option Ty)(tid:Nat)(t:Ty)(len:Nat)(parts:List (Nat×Operand))(k:St->Option R):Option R:=none
def Bz(aa:jB)(d:Option Nat):Option (Nat×Ty):=
 match d.bind (lk aa.fl)with
 |some (.list true tid (.op t))=>some (tid,t)
 |_=>none
def qhA{R:Type}(s:St)(dst:Option Nat)(T:Option Ty)(tid:Nat)(t:Ty)(a b:AV)(k:St->Option R):Option R:=none
noncomputable def qM{R:Type}(aa:jB)(o:Oper)(s:St)(k:St->Option R):Option R:=
 match o.op with
 |.move x=>match qQ s (lk aa.ty o.type) x with
  |some a=>k (s.ah o.dst a)
  |none=>none
 |.assign x=>qjD aa (fe aa s o.dst x) o.dst o.type x k
 |.pick c a b=>match qQ s none c,qQ s (lk aa.ty o.type) a,qQ s (lk aa.ty o.type) b with
  |some (.val .bool c),some a,some b=>cond c (k (s.ah o.dst a)) (k (s.ah o.dst b))
  |_,_,_=>none
 |.alloc T=>match o.dst,Az aa o.dst (lk aa.ty T)with
  |some d,some τ=>bif τ.de then k ((s.newObj d false τ τ.zero).set d (.ptr d []))else none
  |_,_=>none
 |.box T v=>match o.dst,qQ s (lk aa.ty T) v,lk aa.ty T with
  |some d,some a,some τ=>bif (!τ.aD && !a.Nu)||(lk aa.fl d).isSome then(match a with
    |.val σ x=>qa (qF σ τ x) λx=>k (s.set d (.ref τ x))
    |.ref σ x=>qa (qF (.ptr σ) τ (some x)) λx=>k (s.set d (.ref τ x))
    |_=>none)else match a with
   |.view id []=>match s.obj id with
    |some ob=>bif ob.row&&decide (ob.τ.fz=τ)then k (s.CS ((((s.kill id).setObj id none).newObj d false ob.τ ob.x).set d (.ptr d [])) id d)else none
    |none=>none
   |a=>pU s a τ λx=>match a with
    |.val _ _=>k ((s.newObj d false τ x).set d (.ptr d []))
    |.ref _ _=>k ((s.newObj d false τ x).set d (.ptr d []))
    |_=>none
  |_,_,_=>none
 |.load T x=>match qQ (dF aa s o.dst x) none x with
  |some (.cv i f n)=>bif Nat.beq i 0&&qmT aa T then k ((dF aa s o.dst x).ah o.dst (.cv 1 f n))else qlk aa (dF aa s o.dst x) o.dst T i n k
  |some a=>match qmL aa (dF aa s o.dst x) o.dst T a with
   |some s'=>k s'
   |none=>Ts (dF aa s o.dst x) (lk aa.ty T) a λv=>k ((dF aa s o.dst x).ah o.dst v)
  |none=>none
 |.store T a v=>match qiE s a v with
  |some (id,p)=>AB s (lk aa.ty T) id p λs=>k (s.ah o.dst .dead)
  |none=>qkD aa (ug s v) o.dst T a v k
 |.nilCheck x=>match qQ s (lk aa.ty o.type) x with
  |some (.val (.ptr τ) x)=>qa x λy=>k (s.ah o.dst (.ref τ y))
  |some (.ref τ x)=>k (s.ah o.dst (.ref τ x))
  |some (.ptr i p)=>k (s.ah o.dst (.ptr i p))
  |some (.view i p)=>qkO s i p (k (s.ah o.dst (.ptr i (p++[.I 0]))))
  |_=>none
 |.binOp op T x y _=>bif Hl y&&Ht (lk aa.ty T)then(match qQ s none x with
   |some a=>match qkW s a with
    |some b=>Um op b λb=>k (s.ah o.dst (.val .bool b))
    |none=>QV s a λn=>BC n λb=>Um op b λb=>k (s.ah o.dst (.val .bool b))
   |none=>none)else match qQ s none x,qQ s none y with
  |some x,some y=>OU op (lk aa.ty T) x y λv=>k (s.ah o.dst v)
  |_,_=>none
 |.unOp op _ x=>match qQ s none x with
  |some x=>unK op x λv=>k (s.ah o.dst v)
  |none=>none
 |.convert src dst x=>match lk aa.ty src,lk aa.ty dst,qQ s none x with
  |some (.int _),some (.int j),some (.val (.int _) n)=>k (s.ah o.dst (.val (.int j) (j.wrap n)))
  |_,_,_=>none
 |.fieldAddr T x i=>match qQ s none x with
  |some x=>qjt s (lk aa.ty T) x i λv=>k (s.ah o.dst v)
  |none=>none
 |.indexAddr T x i=>match qQ s none x,(qQ s none i).bind intOf with
  |some x,some i=>qgg s (lk aa.ty T) x i λv=>k (s.ah o.dst v)
  |_,_=>none
 |.extract x i=>match qQ s none x with
  |some x=>match qht x i with
   |some a=>k (s.ah o.dst a)
   |none=>none
  |none=>none
 |.slice T x lo hi mx=>YX aa (fe aa s o.dst x) o.dst T x lo hi mx k
 |.makeSlice T l c=>match o.dst,GR aa o.dst ((lk aa.ty T).map λτ=>match τ with|.list _ t e=>.list true t e|τ=>τ),(qQ s none l).bind intOf,(qQ s none c).bind intOf with
  |some d,some (.list true tid e),some l,some c=>bif e.aD&&decide (lk aa.ty T=some (.list false tid e.fz))then bO 0 l (bO l c (qo c (k ((s.newObj (TK aa d) true (.list true tid e) (List.replicate l.toNat e.zero)).set d (.view (TK aa d) [])))))else none
  |_,_,_,_=>none
 |.makeFunc (.func f) first aG=>match zg s (λ_=>none) first.toList 0,zg s (λ_=>none) aG.toList 0 with
  |some a,some b=>k (s.ah o.dst (.fn f (AV.ofList a) (AV.ofList b)))
  |_,_=>none
 |.build T parts=>match(o.dst.bind (lk aa.fl)),lk aa.ty T,zg s (λ_=>none) (parts.toList.map (·.2)) 0 with
  |some (.str τ),some σ,some l=>match o.dst with
   |some d=>bif τ.de&&(!τ.aD&&(parts.toList.isEmpty&&decide ((Ty.str τ).fz=σ)))then k ((s.newObj d true (.str τ) τ.zero).set d (.view d []))else
    bif τ.aD&&decide ((Ty.str τ).fz=σ)&&apart (parts.toList.map (·.1)) []&&(parts.toList.map (·.1)).all (uI τ)then(match QX s ((parts.toList.map (·.1)).zip l) τ 0 with
    |some (s,x)=>k ((s.newObj d true (.str τ) x).set d (.view d []))
    |none=>none)else none
   |none=>none
  |none,some (.str τ),some l=>bif τ.aD&&apart (parts.toList.map (·.1)) []&&(parts.toList.map (·.1)).all (uI τ)then(match QW s ((parts.toList.map (·.1)).zip l) τ 0 with
   |some (s,x)=>k (s.ah o.dst (.val (.str τ) x))
   |none=>none)else none
  |none,some (.arr n e),some l=>bif e.aD&&apart (parts.toList.map (·.1)) []&&(parts.toList.map (·.1)).all (λi=>Nat.blt i n)then(match TV s ((parts.toList.map (·.1)).zip l) e 0 n with
   |some (s,x)=>k (s.ah o.dst (.val (.arr n e) x))
   |none=>none)else none
  |_,_,_=>none
 |.buildSlice T len parts=>match Bz aa o.dst with
  |some (tid,t)=>qjC s o.dst (lk aa.ty T) tid t len parts.toList k
  |none=>match o.dst,BQ aa T,zg s (λ_=>none) (parts.toList.map (·.2)) 0 with
   |some d,some (.list _ tid e),some l=>bif e.aD&&Nat.ble (len*e.size) 16777216&&apart (parts.toList.map (·.1)) []&&(parts.toList.map (·.1)).all (λi=>Nat.blt i len)then(match TV s ((parts.toList.map (·.1)).zip l) e 0 len with
    |some (s,x)=>k ((s.newObj d true (.list true tid e) x).set d (.view d []))
    |none=>none)else none
   |_,_,_=>none
 |.call c=>match c.callee with
  |.builtin .len=>match c.args.toList,c.argTypes.toList with
   |[x],[T]=>match qQ s none x with
    |some a=>bif Ht (lk aa.ty T)then QV s a λn=>k (s.ah o.dst (.val (.int .i64) n))else none
    |none=>none
   |_,_=>none
  |.builtin .append=>match TN aa c with
   |some tid=>qmB aa s o.dst tid c k
   |none=>match c.args.toList,c.argTypes.toList with
   |[x,y],[T,T']=>match qQ s (lk aa.ty T) x,qQ s (lk aa.ty T') y with
    |some a,some b=>bif Nat.beq T T' then(match Bz aa o.dst with
     |some (tid,t)=>qhA s o.dst (lk aa.ty T) tid t a b k
     |none=>qoa s (lk aa.ty T) o.dst x a b (qf6 aa o.dst k))else none
    |_,_=>none
   |_,_=>none
  |.builtin .copy=>match c.args.toList,c.argTypes.toList with
   |[x,y],[T,T']=>match qQ s (lk aa.ty T) x,qQ s (lk aa.ty T') y with
    |some a,some b=>Lt s (lk aa.ty T) o.dst a b k
    |_,_=>none
   |_,_=>none
  |.builtin .clear=>match c.args.toList,c.argTypes.toList with
   |[x],[T]=>match qQ s (lk aa.ty T) x with
    |some a=>DB s (lk aa.ty T) o.dst a k
    |none=>none
   |_,_=>none
  |.builtin .max=>match zg s (λ_=>none) c.args.toList 0 with
   |some [.val (.int i) a,.val (.int j) b]=>bif (i==j)then k (s.ah o.dst (.val (.int i) (max a b)))else none
   |some [.val (.int i) a,.val (.int j) b,.val (.int l) c]=>bif (i==j)&&(i==l)then k (s.ah o.dst (.val (.int i) (max (max a b) c)))else none
   |_=>none
  |.builtin .min=>match zg s (λ_=>none) c.args.toList 0 with
   |some [.val (.int i) a,.val (.int j) b]=>bif (i==j)then k (s.ah o.dst (.val (.int i) (min a b)))else none
   |_=>none
  |.value f=>Yy aa (dP s c.args.toList) o.dst f c k
  |.invoke x "Len" =>bif c.args.toList.isEmpty then qkL aa s o.dst x k else none
  |_=>none
 |.makeMap T none=>qi9 aa s o.dst T k
 |.lookup T x i ok=>match qQ s none x,qQ s none i with
  |some a,some b=>BJ aa s o.dst T a b ok k
  |_,_=>none
 |.mapUpdate T x i v=>match qQ s none x,qQ s none i,qQ s none v with
  |some a,some b,some c=>Bh aa s o.dst T a b c k
  |_,_,_=>none
 |.insert T x i v=>match qQ s none x,qQ s none i,qQ s none v with
  |some a,some b,some c=>Bh aa s o.dst T a b c k
  |_,_,_=>none
 |.range T x=>qkJ aa (iD s x) o.dst T x k
 |.next x false=>qng aa s o.dst x k
 |.entry x=>qlg s o.dst x k
 |.makeInterface T x=>zM aa s o.dst T x k
 |.typeAssert x _ T false=>qlp aa s o.dst x T k
 |_=>none
def jX(o:Oper):Bool:=
 match o.op with
 |.move _=>true
 |.assign _=>true
 |.pick _ _ _=>true
 |.load _ _=>true
 |.nilCheck _=>true
 |.binOp _ _ _ _ _=>true
 |.unOp _ _ _=>true
 |.convert _ _ _=>true
 |.fieldAddr _ _ _=>true
 |.indexAddr _ _ _=>true
 |.extract _ _=>true
 |.slice _ _ _ _ _=>true
 |.makeFunc (.func _) _ _=>true
 |.lookup _ _ _ _=>true
 |.entry _=>true
 |.build _ _=>true
 |.typeAssert _ _ _ ok=>!ok
 |.call c=>match c.callee with
  |.builtin .len=>true
  |.builtin .max=>true
  |.builtin .min=>true
  |_=>false
 |_=>false
def vj(m:Ms):Operand->Bool
 |.tmp t=>nP t m.tm
 |_=>false
def Mx(m:Ms):Operand->Bool
 |.tmp t=>match m.it with
  |some (ti,_)=>nP t ti
  |none=>false
 |_=>false
theorem Uj{n:Int}:lN n=true↔-9223372036854775808<=n/\n<=9223372036854775807:=by
 cases n with
 |ofNat m=>
  show Nat.ble m 9223372036854775807=true↔_
  rw[Nat.ble_eq]
  have e:Int.ofNat m=(m:Int):=rfl
  rw[e]
  omega
 |negSucc m=>
  show Nat.ble m 9223372036854775807=true↔_
  rw[Nat.ble_eq]
  have e:Int.negSucc m = -((m:Int)+1):=rfl
  rw[e]
  omega
theorem YJ{R:Type}(n:Int)(k:Option R):dR n k=if -9223372036854775808<=n/\n<=9223372036854775807 then k else none:=by
 unfold dR
 cases h:lN n with
 |true=>rw[if_pos (Uj.1 h)];rfl
 |false=>rw[if_neg (λhh=>by rw[Uj.2 hh]at h;cases h)];rfl
def DH(n:Int):AV:=.val (.int .i64) n
def Rj(s:St)(x:Operand):Option Int:=
 match qQ s none x with
 |some (.val (.int .i64) n)=>some n
 |_=>none
noncomputable def qnM{R:Type}(aa:jB)(o:Oper)(s:St)(m:Ms)(k:St->Option R):Option R:=
 match o.op with
 |.lookup T x i true=>bif vj m x&&(decide (lk aa.maps T=some (m.kt,m.vt)))then(match Rj s i with
  |some n=>dR n (match bX m.kv n with
   |some v=>k ((s.ah o.dst (.cons (DH v) (.cons (.val .bool true) .nil))).aL (some (m.aB o.dst)))
   |none=>k ((s.ah o.dst (.cons (DH 0) (.cons (.val .bool false) .nil))).aL (some (m.aB o.dst))))
  |none=>none)else none
 |.mapUpdate T x i v=>bif vj m x&&(decide (lk aa.maps T=some (m.kt,m.vt)))then(match Rj s i,Rj s v with
  |some n,some v=>dR n (dR v (qo m.kv.length (k (((s.af AV.aH).ah o.dst .dead).aL (some ⟨m.kt,m.vt,(m.aB o.dst).tm,nQ m.kv n v,none,none⟩)))))
  |_,_=>none)else none
 |.range T x=>match o.dst with
  |some d=>bif vj m x&&(decide (lk aa.maps T=some (m.kt,m.vt)))then k ((s.set d .dead).aL (some ⟨m.kt,m.vt,Hg d m.tm,m.kv,some ([d],m.kv.map (·.1)),none⟩))else none
  |none=>none
 |.next x false=>bif Mx m x then(match(m.aB o.dst).it with
  |some (ti,lf)=>match lf with
   |[]=>k ((s.ah o.dst (.cons (.val .bool false) .nil)).aL (some (m.aB o.dst).calm))
   |_=>GF (λn:Int=>n∈lf) λn=>match bX m.kv n with
    |some v=>k (((s.af AV.aH).ah o.dst (.cons (.val .bool true) (.cons (DH n) (.cons (DH v) .nil)))).aL (some ⟨m.kt,m.vt,(m.aB o.dst).tm,m.kv,some (ti,oz n lf),some (n,v)⟩))
    |none=>none
  |none=>none)else none
 |.entry x=>bif Mx m x then(match m.cur with
  |some (n,v)=>k ((s.ah o.dst (.cons (DH n) (.cons (DH v) .nil))).aL (some (m.aB o.dst)))
  |none=>none)else none
 |.call c=>match c.callee with
  |.builtin .len=>match c.args.toList,c.argTypes.toList with
   |[x],[T]=>bif vj m x&&(decide (lk aa.maps T=some (m.kt,m.vt)))then k ((s.ah o.dst (DH m.kv.length)).aL (some (m.aB o.dst)))
     else qM aa o s λs'=>k (s'.aL (some (m.aB o.dst)))
   |_,_=>none
  |.builtin .delete=>match c.args.toList,c.argTypes.toList with
   |[x,i],[T,T']=>bif vj m x&&(decide (lk aa.maps T=some (m.kt,m.vt)))&&Nat.beq T' m.kt then(match Rj s i with
    |some n=>dR n (k (((s.af AV.aH).ah o.dst .nil).aL (some ⟨m.kt,m.vt,(m.aB o.dst).tm,nO m.kv n,none,none⟩)))
    |none=>none)else none
   |_,_=>none
  |_=>qM aa o s λs'=>k (s'.aL (some (bif jX o then m.aB o.dst else(m.aB o.dst).calm)))
 |.move x=>qM aa o s λs'=>k (s'.aL (some (bif vj m x then(m.aB o.dst).add o.dst else m.aB o.dst)))
 |.assign x=>qM aa o s λs'=>k (s'.aL (some (bif vj m x then(m.aB o.dst).add o.dst else m.aB o.dst)))
 |_=>qM aa o s λs'=>k (s'.aL (some (bif jX o then m.aB o.dst else(m.aB o.dst).calm)))
noncomputable def xM{R:Type}(aa:jB)(o:Oper)(s:St)(k:St->Option R):Option R:=
 match s.mp with
 |none=>match o.op with
  |.makeMap T none=>match o.dst,lk aa.maps T with
   |some d,some (kt,vt)=>k ((s.set d .dead).aL (some ⟨kt,vt,[d],[],none,none⟩))
   |_,_=>qM aa o s λs'=>k (s'.aL none)
  |_=>qM aa o s λs'=>k (s'.aL none)
 |some m=>qnM aa o s m k
def St.skip(s:St)(d:Option Nat):St:=(s.ah d .nil).aL (s.mp.map λm=>m.aB d)
noncomputable def ku{R:Type}(aa:jB)(ops:Array Oper)(k:St->Option R):List Oper->St->Option R
 |[],s=>k s
 |o::rest,s=>bif qK aa.nt o.dst then(match o.guard with
  |none=>xM aa o s λs=>ku aa ops k rest s
  |some (j,want)=>match(ops[j]?).bind (·.dst)with
   |none=>none
   |some t=>match s.get t with
    |some (.val .bool b)=>cond b
      (let s:=s.set t (.val .bool true)
      bif want then xM aa o s λs=>ku aa ops k rest s else ku aa ops k rest (s.skip o.dst))
      (let s:=s.set t (.val .bool false)
      bif want then ku aa ops k rest (s.skip o.dst)else xM aa o s λs=>ku aa ops k rest s)
    |some .nil=>ku aa ops k rest (s.skip o.dst)
    |_=>none)else none
def YR(ops:Array Oper)(s:St):Option (Nat×Bool)->Option Bool
 |none=>some true
 |some (j,want)=>match(ops[j]?).bind (·.dst)with
  |none=>none
  |some t=>match s.get t with
   |some (.val .bool b)=>some (cond want b (!b))
   |some .nil=>some false
   |_=>none
def Jm(dec:List Nat):Option (Nat×Bool)->Bool
 |none=>true
 |some (j,_)=>nP j dec
def qiA(aa:jB)(s:St):Op->Bool
 |.move _=>true
 |.load T x=>match qQ s none x with
  |some (.ref σ _)=>decide (lk aa.ty T=some σ)
  |some (.cv i _ n)=>Nat.beq i 2&&(Nat.beq (n/1000) 1&&Ub (lk aa.ty T))
  |_=>false
 |.fieldAddr T x i=>match qQ s none x,lk aa.ty T with
  |some (.ref _ _),some (.str t)=>uI t i
  |some (.ptr _ _),some (.str t)=>uI t i
  |_,_=>false
 |.nilCheck x=>match qQ s none x with
  |some (.ref _ _)=>true
  |some (.ptr _ _)=>true
  |_=>false
 |.extract x i=>match qQ s none x,i with
  |some (.cons _ _),0=>true
  |some (.cons _ (.cons _ _)),1=>true
  |_,_=>false
 |.binOp .add _ x y _=>match qQ s none x,qQ s none y with
  |some (.val (.int i) _),some (.val (.int j) _)=>i==j
  |_,_=>false
 |.binOp .sub _ x y _=>match qQ s none x,qQ s none y with
  |some (.val (.int i) _),some (.val (.int j) _)=>i==j
  |_,_=>false
 |.call ⟨.builtin .len,⟨[x]⟩,⟨[T]⟩⟩=>match qQ s none x with
  |some (.val (.list _ _ _) _)=>Ht (lk aa.ty T)
  |_=>false
 |_=>false
def Zc(aa:jB)(s:St)(o:Oper):Bool:=
 match o.op,o.guard,o.dst.bind (lk aa.fl)with
 |.slice T x none (some y) none,none,none=>match qQ s none x with
  |some (.val (.list false tid e) _)=>(match qQ s none y with
   |some (.val (.int _) _)=>decide (lk aa.ty T=some (.list false tid e))
   |_=>false)
  |_=>false
 |_,_,_=>false
def YI(s:St)(o:Oper):Bool:=
 match o.op,o.guard with
 |.indexAddr _ x _,none=>(match qQ s none x with
  |some (.val (.list _ _ _) _)=>true
  |some (.ref (.arr _ _) _)=>true
  |some (.view _ _)=>true
  |_=>false)
 |.nilCheck x,none=>(match qQ s none x with
  |some (.view _ _)=>true
  |_=>false)
 |_,_=>false
def Rh(aa:jB)(ops:Array Oper)(listed:Array Bool)(dec:List Nat)(s:St)(i:Nat):Bool:=
 match ops[i]? with
 |some o=>s.mp.isNone&&(Jm dec o.guard&&(Region.free .any ops listed i&&(match YR ops s o.guard with
  |some w=>cond w (qiA aa s o.op||(Zc aa s o||YI s o)) true
  |none=>false)))
 |none=>false
def RA(o:Oper):Bool:=
 match o.op with
 |.move _=>true
 |.load _ _=>true
 |.indexAddr _ _ _=>true
 |_=>false
def Rq(ops:Array Oper)(listed:Array Bool)(i:Nat):List Nat:=
 (List.range ops.size).foldl (λD j=>match ops[j]? with
  |some o=>bif !listed.getD j true&&(o.after.any λe=>Region.binds .any e&&j4 e.on D)then j::D else D
  |none=>D) [i]
def zS(ops:Array Oper)(listed:Array Bool)(i:Nat)(D:List Nat):Bool:=
 D.all λd=>!listed.getD d true&&(Nat.beq d i||match ops[d]? with
  |some o=>o.after.any λe=>Region.binds .any e&&j4 e.on D
  |none=>false)
def Zu(ops:Array Oper)(listed:Array Bool)(i:Nat):Bool:=
 zS ops listed i (Rq ops listed i)&&(List.range ops.size).all λj=>Nat.beq j i||(listed.getD j true||(j4 j (Rq ops listed i)||match ops[j]? with
  |some o=>RA o
  |none=>true))
def qjj(ops:Array Oper)(listed:Array Bool)(s:St)(i:Nat):Bool:=
 match ops[i]? with
 |some o=>match o.op,o.guard with
  |.load _ _,none=>s.mp.isNone&&(Region.free .any ops listed i&&Zu ops listed i)
  |_,_=>false
 |none=>false
def qn3(aa:jB)(ops:Array Oper)(listed:Array Bool)(dec:List Nat)(s:St)(i:Nat):Bool:=Rh aa ops listed dec s i||qjj ops listed s i
noncomputable def og{R:Type}(ops:Array Oper):List Nat->List Nat->St->(List Nat->St->Option R)->Option R
 |[],dec,s,k=>k dec s
 |i::l,dec,s,k=>match(ops[i]?).bind (·.guard)with
  |none=>og ops l dec s k
  |some (j,_)=>bif nP j dec then og ops l dec s k else match(ops[j]?).bind (·.dst)with
   |none=>og ops l dec s k
   |some t=>match s.get t with
    |some (.val .bool b)=>cond b (og ops l (j::dec) (s.set t (.val .bool true)) k) (og ops l (j::dec) (s.set t (.val .bool false)) k)
    |some .nil=>og ops l (j::dec) s k
    |_=>og ops l dec s k
def FX(ops:Array Oper)(i:Nat):List Oper:=match ops[i]? with|some o=>[o]|none=>[]
noncomputable def Gc{R:Type}(aa:jB)(ops:Array Oper)(k:St->Option R):Nat->Array Bool->List Nat->St->Option R
 |0,listed,_,s=>match Region.ready .any ops listed with
  |[]=>k s
  |_::_=>none
 |n+1,listed,dec,s=>og ops (Region.ready .any ops listed) dec s λdec s=>match(Region.ready .any ops listed).find? (qn3 aa ops listed dec s)with
  |some i=>ku aa ops (λs=>Gc aa ops k n (listed.setIfInBounds i true) dec s) (FX ops i) s
  |none=>match Region.ready .any ops listed with
   |[]=>k s
   |[i]=>ku aa ops (λs=>Gc aa ops k n (listed.setIfInBounds i true) dec s) (FX ops i) s
   |i::j::l=>qv ((i::j::l).map λi=>ku aa ops (λs=>Gc aa ops k n (listed.setIfInBounds i true) dec s) (FX ops i) s)
def yD(aa:jB)(s:St):Operand->St
 |.tmp t=>match lk aa.fl t with
  |none=>s
  |some τ=>bif τ.ay then(match s.get t with
   |some (.ptr id [])=>s.freeze id
   |_=>s)else s
 |_=>s
def Rf(aa:jB):List Oper->St->St
 |[],s=>s
 |o::r,s=>Rf aa r (match o.op with
  |.fieldAddr _ x _=>yD aa s x
  |.load _ x=>yD aa s x
  |.indexAddr _ x _=>yD aa s x
  |_=>s)
def sM:Code->Option Nat
 |.region id _ _=>some id
 |.seq a b=>match sM a with
  |some n=>some n
  |none=>sM b
 |.cond _ a b=>match sM a with
  |some n=>some n
  |none=>sM b
 |.block _ c=>sM c
 |.loop c=>sM c
 |_=>none
def G_{R:Type}(f:St->Option R)(k:X->St->Option R)(e:X)(s:St):Option R:=
 match e with
 |.norm=>f s
 |e=>k e s
def Yx{R:Type}(id:Nat)(k:X->St->Option R)(e:X)(s:St):Option R:=
 match e with
 |.exit j=>bif Nat.beq j id then k .norm s else k (.exit j) s
 |e=>k e s
def YA(s:St):List Nat->Option (List AV)
 |[]=>some []
 |t::l=>match s.get t,YA s l with
  |some a,some r=>some (a::r)
  |_,_=>none
def reads(p:j3):Bool:=
 match p with
 |.v _=>true
 |.r _=>true
 |.c _=>true
 |.gm _=>true
 |_=>false
def HB(s:St):List j3->List AV->St
 |.gm _::ps,a::l=>match a with
  |.ptr id _=>HB ((s.kill id).setObj id none) ps l
  |_=>HB s ps l
 |_::ps,_::l=>HB s ps l
 |_,_=>s
def Lv:List Nat->(a:Ty)->a.den->List (Nat×AV)
 |[p,q],.pair t u,x=>[(q,.val u x.2),(p,.val t x.1)]
 |[p],a,x=>[(p,.val a x)]
 |_,_,_=>[]
def eW(nt:Nat):List Nat->Ty->Bool
 |[p,q],.pair _ _=>Nat.blt p nt&&Nat.blt q nt
 |[_],.pair _ _=>false
 |[p],_=>Nat.blt p nt
 |_,_=>false
def AV.mo:AV->Bool
 |.nil=>true
 |_=>false
def Tr(f:Nat):AV->Nat
 |.nil=>f
 |_=>5000000+f
noncomputable def run{R:Type}(aa:jB)(n:Nat):Code->St->(X->St->Option R)->Option R
 |.skip,s,k=>k .norm s
 |.ret,s,k=>k .ret s
 |.exit id,s,k=>k (.exit id) s
 |.region id ops draw,s,k=>bif draw&&s.mp.isSome then none else bif draw&&nP id aa.mK&&Region.noSelect ops then(match lk aa.Vn id with
  |some sk=>qa (Gc aa ops sk.get ops.size (Array.replicate ops.size false) [] (Rf aa ops.toList s)) λd=>k .norm (sk.fill d)
  |none=>Gc aa ops (k .norm) ops.size (Array.replicate ops.size false) [] (Rf aa ops.toList s))else ku aa ops (k .norm) ops.toList s
 |.seq a b,s,k=>run aa n a s (G_ (λs=>run aa n b s k) k)
 |.cond c a b,s,k=>match qQ s none c with
  |some (.val .bool c)=>cond c (run aa n a s k) (run aa n b s k)
  |_=>none
 |.block id c,s,k=>run aa n c s (Yx id k)
 |.loop c,s,k=>match sM c with
  |none=>none
  |some key=>match lk aa.loops key with
   |none=>match lk aa.pG key with
    |none=>none
    |some lw=>match lw.ins.get s with
     |none=>none
     |some d=>QK (λS=>lw.w n d S=some ()) λo=>vo k lw.outs o
   |some li=>match li.ins.get s with
    |none=>none
    |some d=>qa (li.g n d) λo=>vo k li.outs o
 |.rangeFunc g ps assign _,s,k=>match sM assign,qQ s none g with
  |some key,some (.fn f fa aG)=>match lk aa.tS (Tr f fa),lk aa.pQ key with
   |some it,some li=>match YA s li.tl with
    |some l=>bif Nat.blt f 5000000&&fa.aY&&aG.aY&&(fa.mo||aG.mo)&&s.mp.isNone&&it.ps.all reads&&apart (qI it.ps (fa.list++aG.list)++qI li.ps l) (qG it.ps (fa.list++aG.list)++qG li.ps l)&&eW aa.nt ps.toList li.a&&Nat.ble li.ps.length aa.nt&&li.ps.all j3.x_ then
      qb1 aa s it.ps (fa.list++aG.list) λdc=>qb1 aa s li.ps l λd=>qa (it.g dc) λGH=>qa (qF (.list false 0 it.a) (.list false 0 li.a) GH) λxs=>qa (li.g n xs d) λo=>
       wB li.outs o.1 λe=>k e ((qC ((HB (s.aQ (qG it.ps (fa.list++aG.list)++qG li.ps l)) it.ps (fa.list++aG.list)).af AV.aH) li.ps l o.2).aL none)else none
    |none=>none
   |_,_=>none
  |_,_=>none
 |_,_,_=>none
def qV(li:jL)(n:Nat)(e:X)(s:St):Option (ul li.outs):=
 match e with
 |.norm=>match li.ins.get s with
  |some d=>li.g n d
  |none=>none
 |e=>QY e s li.outs
def D_(aa:jB)(li:jL)(c:Code):Prop:=
 (∀d,li.g 0 d=none)/\∀n d,li.g (n+1) d=run aa n c (li.ins.fill d) (qV li n)
noncomputable def qc3(lw:Tu)(n:Nat)(S:ul lw.outs->Prop)(e:X)(s:St):Option Unit:=
 match e with
 |.norm=>match lw.ins.get s with
  |some d=>lw.w n d S
  |none=>none
 |e=>match QY e s lw.outs with
  |some o=>kS (S o)
  |none=>none
def qob(aa:jB)(lw:Tu)(c:Code):Prop:=
 (∀d S,lw.w 0 d S=none)/\∀n d S,lw.w (n+1) d S=run aa n c (lw.ins.fill d) (qc3 lw n S)
def pX(aa:jB):Code->Prop
 |.seq a b=>pX aa a/\pX aa b
 |.cond _ a b=>pX aa a/\pX aa b
 |.block _ c=>pX aa c
 |.loop c=>pX aa c/\(∀key li,sM c=some key->lk aa.loops key=some li->D_ aa li c)/\∀key lw,sM c=some key->lk aa.loops key=none->lk aa.pG key=some lw->qob aa lw c
 |_=>True
def pid(i:Nat):Nat:=10000000+i
def jZ:(ps:List j3)->Nat->aI ps->List (Nat×AV)
 |[],_,_=>[]
 |.v τ::ps,i,d=>(i,.val τ d.1)::jZ ps (i+1) d.2
 |.r τ::ps,i,d=>(i,.ref τ d.1)::jZ ps (i+1) d.2
 |.c f::ps,i,d=>(i,.fn f .nil .nil)::jZ ps (i+1) d.2
 |.t _ _::ps,i,d=>(i,.view (pid i) [])::jZ ps (i+1) d.2
 |.gm _::ps,i,d=>(i,.ptr (pid i) [])::jZ ps (i+1) d.2
 |.cm f _::ps,i,d=>(i,.fn f .nil (.cons (.ptr (pid i) []) .nil))::jZ ps (i+1) d.2
 |.m _::ps,i,d=>(i,.ptr (pid i) [])::jZ ps (i+1) d.2
 |.mr _ _::ps,i,d=>(i,.view (pid i) [])::jZ ps (i+1) d.2
def jG:(ps:List j3)->Nat->aI ps->List (Nat×Option Obj)
 |[],_,_=>[]
 |.v _::ps,i,d=>jG ps (i+1) d.2
 |.r _::ps,i,d=>jG ps (i+1) d.2
 |.c _::ps,i,d=>jG ps (i+1) d.2
 |.t tid e::ps,i,d=>(pid i,some ⟨true,.list true tid e,d.1⟩)::jG ps (i+1) d.2
 |.gm τ::ps,i,d=>(pid i,some ⟨false,τ,d.1⟩)::jG ps (i+1) d.2
 |.cm _ τ::ps,i,d=>(pid i,some ⟨false,τ,d.1⟩)::jG ps (i+1) d.2
 |.m τ::ps,i,d=>(pid i,some ⟨false,τ,d.1⟩)::jG ps (i+1) d.2
 |.mr tid e::ps,i,d=>(pid i,some ⟨true,.list true tid e,d.1⟩)::jG ps (i+1) d.2
def Ke(ps:List j3)(d:aI ps):St:=⟨jZ ps 0 d,jG ps 0 d,none⟩
def jC(s:St):(ps:List j3)->Nat->Option (aV ps)
 |[],_=>some ()
 |.v _::ps,i=>jC s ps (i+1)
 |.r _::ps,i=>jC s ps (i+1)
 |.c _::ps,i=>jC s ps (i+1)
 |.t _ _::ps,i=>jC s ps (i+1)
 |.gm _::ps,i=>jC s ps (i+1)
 |.cm _ τ::ps,i=>match s.obj (pid i)with
  |some o=>bif o.row then none else match qF o.τ τ o.x,jC s ps (i+1)with
   |some x,some d=>some (x,d)
   |_,_=>none
  |none=>none
 |.m τ::ps,i=>match s.obj (pid i)with
  |some o=>bif o.row then none else match qF o.τ τ o.x,jC s ps (i+1)with
   |some x,some d=>some (x,d)
   |_,_=>none
  |none=>none
 |.mr tid e::ps,i=>match s.obj (pid i)with
  |some o=>bif o.row then(match qF o.τ (.list true tid e) o.x,jC s ps (i+1)with
   |some x,some d=>some (x,d)
   |_,_=>none)else none
  |none=>none
def kK:(ps:List j3)->Nat->List Nat
 |[],_=>[]
 |.v _::ps,i=>kK ps (i+1)
 |.r _::ps,i=>kK ps (i+1)
 |.c _::ps,i=>kK ps (i+1)
 |.t _ _::ps,i=>kK ps (i+1)
 |.gm _::ps,i=>kK ps (i+1)
 |.cm _ _::ps,i=>pid i::kK ps (i+1)
 |.m _::ps,i=>pid i::kK ps (i+1)
 |.mr _ _::ps,i=>pid i::kK ps (i+1)
def Mw(li:qc5)(pl:List Nat)(d:aI li.ps)(x:li.a.den):St:=⟨Lv pl li.a x++li.tl.zip ((jZ li.ps 0 d).map (·.2)),jG li.ps 0 d,none⟩
def YH(li:qc5)(n:Nat)(r:List li.a.den)(d:aI li.ps)(e:X)(s:St):Option (X×aV li.ps):=
 match jC s li.ps 0 with
 |some md=>match e with
  |.norm=>li.g n r (j8 li.ps d md)
  |e=>some (e,md)
 |none=>none
def Mf{R:Type}(_:X)(_:St):Option R:=none
noncomputable def JZ(aa:jB)(li:qc5)(n:Nat)(body:Code)(r:List li.a.den)(d:aI li.ps)(s:St):Option (X×aV li.ps):=
 bif s.mp.isNone then run aa n body (s.af AV.aH) (YH li n r d)else none
def qlt(aa:jB)(li:qc5)(pl:List Nat)(assign body:Code):Prop:=
 (∀n d,li.g n [] d=some (.norm,gJ li.ps d))/\∀n x r d,li.g n (x::r) d=run aa n assign (Mw li pl d x) (G_ (JZ aa li n body r d) Mf)
def qb2(aa:jB):Code->Prop
 |.seq a b=>qb2 aa a/\qb2 aa b
 |.cond _ a b=>qb2 aa a/\qb2 aa b
 |.block _ c=>qb2 aa c
 |.loop c=>qb2 aa c
 |.rangeFunc _ ps assign body=>pX aa assign/\pX aa body/\∀key li,sM assign=some key->lk aa.pQ key=some li->qlt aa li ps.toList assign body
 |_=>True
def Ml{R:Type}(aa:jB)(s:St)(v:ResultVar)(k:AV->Option R):Option R:=
 match v with
 |.tmp t=>match s.get t with
  |some a=>k a
  |none=>none
 |.cell t T=>match s.get t with
  |some a=>Ts s (lk aa.ty T) a k
  |none=>none
def y_{R:Type}(aa:jB)(s:St)(used:List Nat):List ResultVar->(rs:List fk)->(bH rs->Option R)->Option R
 |[],[],k=>k ()
 |v::vs,.v τ::rs,k=>Ml aa s v λa=>bif apart a.aK used then pU s a τ λx=>y_ aa s (a.aK++used) vs rs λd=>k (x,d)else none
 |v::vs,.own tid e::rs,k=>Ml aa s v λa=>match a with
  |.view id p=>bif j4 id used then none else match s.obj id with
   |some o=>iS o.τ o.x p λσ y=>qa (qF σ (.list true tid e) y) λx=>y_ aa s (id::used) vs rs λd=>k (x,d)
   |none=>none
  |_=>none
 |v::vs,.ir τ::rs,k=>Ml aa s v λa=>match a with
  |.view id p=>bif j4 id used || !TB τ then none else match s.obj id with
   |some o=>iS o.τ o.x p λσ y=>qa (qF σ τ y) λx=>y_ aa s (id::used) vs rs λd=>k (x,d)
   |none=>none
  |_=>none
 |v::vs,.sure nn tid e::rs,k=>Ml aa s v λa=>match a with
  |.view id []=>bif j4 id used || !Mu id nn then none else match s.obj id with
   |some o=>bif o.row then qa (qF o.τ (.list true tid e) o.x) λx=>y_ aa s (id::used) vs rs λd=>k (x,d)else none
   |none=>none
  |_=>none
 |v::vs,.iu τ::rs,k=>Ml aa s v λa=>match a with
  |.ptr id []=>bif j4 id used then none else match s.obj id with
   |some o=>bif o.row then none else qa (qF o.τ τ o.x) λx=>y_ aa s (id::used) vs rs λd=>k (x,d)
   |none=>none
  |_=>none
 |_,_,_=>none
def JV(aa:jB)(fn:Func)(ps:List j3)(rs:List fk)(e:X)(s:St):Option (bH rs×aV ps):=
 match e with
 |.exit _=>none
 |_=>match jC s ps 0 with
  |some md=>y_ aa s (kK ps 0) fn.results.toList rs λd=>some (d,md)
  |none=>none
noncomputable def qL(aa:jB)(n:Nat)(fn:Func)(c:Code)(ps:List j3)(rs:List fk)(d:aI ps):Option (bH rs×aV ps):=
 run aa n c (Ke ps d) (JV aa fn ps rs)
end Go.Vi
namespace Go.Vi
inductive FB where
 |cells (c:Array Value)
 |map (es:Array MapEntry) (n:Nat)
def FB.At(w:World)(b:Nat):FB->Prop
 |.cells c=>∃t f,w.heap[b]? = some (.cells c t f)
 |.map es n=>w.heap[b]? = some (.map es n)
theorem FB.At.lt{w:World}{b:Nat}:{c:FB}->c.At w b->b<w.heap.size
 |.cells _,⟨_,_,h⟩=>(Array.getElem?_eq_some_iff.1 h).1
 |.map _ _,h=>(Array.getElem?_eq_some_iff.1 h).1
theorem FB.At.block{w w':World}{b:Nat}(e:w'.heap[b]? = w.heap[b]?):{c:FB}->c.At w b->c.At w' b
 |.cells _,⟨t,f,h⟩=>⟨t,f,e.trans h⟩
 |.map _ _,h=>Eq.trans e h
abbrev FH:=Nat->Option FB
def FH.le(H H':FH):Prop:=∀b c,H b=some c->H' b=some c
theorem FH.le_refl(H:FH):H.le H:=λ_ _ h=>h
theorem FH.le_trans{A B C:FH}(h:A.le B)(k:B.le C):A.le C:=λb c e=>k b c (h b c e)
def cI(H:FH)(w:World):Prop:=∀b c,H b=some c->c.At w b
theorem cI.lt{H:FH}{w:World}(h:cI H w){b:Nat}{c:FB}(hb:H b=some c):b<w.heap.size:=(h b c hb).lt
theorem cI.cells{H:FH}{w:World}(h:cI H w){b:Nat}{c:Array Value}(hb:H b=some (.cells c)):∃t f,w.heap[b]? = some (.cells c t f):=h b _ hb
structure jO (M:Nat->Prop) (w w':World):Prop where
 os:w'.os=w.os
 tape:w'.tape=w.tape
 output:w'.output=w.output
 size:w.heap.size<=w'.heap.size
 block:∀k,k<w.heap.size->¬M k->w'.heap[k]? = w.heap[k]?
theorem jO.refl(M:Nat->Prop)(w:World):jO M w w:=⟨rfl,rfl,rfl,Nat.le_refl _,λ_ _ _=>rfl⟩
theorem jO.trans{M:Nat->Prop}{a b c:World}(h:jO M a b)(k:jO M b c):jO M a c:=
 ⟨k.os.trans h.os,k.tape.trans h.tape,k.output.trans h.output,Nat.le_trans h.size k.size,λi hi hm=>(k.block i (Nat.lt_of_lt_of_le hi h.size) hm).trans (h.block i hi hm)⟩
theorem jO.bA{M N:Nat->Prop}{a b c:World}(h:jO M a b)(k:jO N b c)(hN:∀i,N i->M i\/a.heap.size<=i):jO M a c:=
 ⟨k.os.trans h.os,k.tape.trans h.tape,k.output.trans h.output,Nat.le_trans h.size k.size,λi hi hm=>(k.block i (Nat.lt_of_lt_of_le hi h.size) (λhn=>(hN i hn).elim hm (λe=>by omega))).trans (h.block i hi hm)⟩
theorem jO.mono{M N:Nat->Prop}{a b:World}(h:jO M a b)(hN:∀i,M i->N i):jO N a b:=
 ⟨h.os,h.tape,h.output,h.size,λi hi hm=>h.block i hi (λhh=>hm (hN i hh))⟩
def jA:Nat->Prop:=λ_=>False
theorem cI.mod{H:FH}{M:Nat->Prop}{w w':World}(h:cI H w)(hm:jO M w w')(hM:∀b,M b->H b=none):cI H w':=by
 intro b c hb
 exact(h b c hb).block (hm.block b (h.lt hb) (λhh=>by rw[hM b hh]at hb;cases hb))
def ct(c:Array Value)(o n:Nat):List Value:=(c.toList.drop o).take n
def j7(τ:Ty)(cs:List Value):Value:=bif τ.isAgg then .agg cs.toArray else cs.headD undef
def qd{α:Type}(R:α->List Value->List Nat->Prop):List α->List Value->List Nat->Prop
 |[],xs,fp=>xs=[]/\fp=[]
 |x::l,xs,fp=>∃c xs' f aC,xs=c++xs'/\fp=f++aC/\R x c f/\qd R l xs' aC
def jD(P:Program)(f:Nat):Prop:=∃fn,P.funcs[f]? = some fn/\(fn.name == "runtime.NumGoroutine")=false/\fn.body.isSome=true
def jS(k:XK):Value:=.agg #[.int .i64 k.1,.int .i64 k.2]
def xZ(n:Int):Value:=.int .i64 n
def uD(x:XK×XK):Value:=.agg #[.int .i64 x.1.1,.int .i64 x.1.2,.int .i64 x.2.1,.int .i64 x.2.2]
def sG(x:XK×XK):List Value:=[.int .i64 x.1.1,.int .i64 x.1.2,.int .i64 x.2.1,.int .i64 x.2.2]
abbrev MV:=DataW Value
def rR(v:Value):Option (MV×List MemPlace):=some (.held v,[])
structure FZ (P:Program) (kt:Nat) {β:Type} (ev:β->Value) (D:MV) (kv:List (XK×β)):Prop where
 has:∀k kl,keyOf P kt (jS k)=some kl->Maps.has D kl=(jE kv k).isSome
 val:∀k kl z,keyOf P kt (jS k)=some kl->D.atKey kl z=match jE kv k with|some v=>.held (ev v)|none=>z
 size:Maps.size D=kv.length
 nd:(kv.map (·.1)).Nodup
 keys:∀kl,Maps.has D kl=true->∃k,k∈kv.map (·.1)/\keyOf P kt (jS k)=some kl
 kof:∀k∈kv.map (·.1),∃kl,keyOf P kt (jS k)=some kl
def rS(P:Program)(kt:Nat){β:Type}(ev:β->Value)(w:World)(b:Nat)(kv:List (XK×β)):Prop:=
 ∃D:MV,w.ownsMap P kt rR b kv.length D/\FZ P kt ev D kv
def Jw(P:Program)(kt:Nat){β:Type}(ev:β->Value)(c:FB)(kv:List (XK×β)):Prop:=
 ∃es n,∃D:MV,c = .map es n/\WideElems.Fit P kt rR es n/\es.size<=kv.length/\D = .map ((es.toList.map (WideElems.rg P kt rR)).foldr DataW.insert [])/\FZ P kt ev D kv
theorem rS.block{P:Program}{kt:Nat}{β:Type}{ev:β->Value}{w w':World}{b:Nat}{kv:List (XK×β)}(h:rS P kt ev w b kv)(e:w'.heap[b]? = w.heap[b]?):rS P kt ev w' b kv:=by
 obtain⟨D,⟨es,n,h1,h2⟩,h3⟩:=h
 exact⟨D,⟨es,n,e.trans h1,h2⟩,h3⟩
theorem rS.fz{P:Program}{kt:Nat}{β:Type}{ev:β->Value}{w:World}{b:Nat}{kv:List (XK×β)}(h:rS P kt ev w b kv):∃es n,w.heap[b]? = some (.map es n)/\Jw P kt ev (.map es n) kv:=by
 obtain⟨D,⟨es,n,h1,h2,h3,h4⟩,h5⟩:=h
 exact⟨es,n,h1,es,n,D,rfl,h2,h3,h4,h5⟩
theorem Jw.U'{P:Program}{kt:Nat}{β:Type}{ev:β->Value}{w:World}{b:Nat}{c:FB}{kv:List (XK×β)}(h:Jw P kt ev c kv)(hc:c.At w b):rS P kt ev w b kv:=by
 obtain⟨es,n,D,rfl,h2,h3,h4,h5⟩:=h
 exact⟨D,⟨es,n,hc,h2,h3,h4⟩,h5⟩
def Ly(P:Program)(kt:Nat)(w:World)(H:FH)(r:Nat)(x:List (XK×XK)×Option (XK×XK)):Prop:=
 ∃(b:Nat) (es:Array MapEntry) (n since:Nat) (seen:Array Nat) (c0:Nat) (D:MV) (left:Lit->Bool) (kv:List (XK×XK)),
  H b=some (.map es n)/\WideElems.Fit P kt rR es n/\D = .map ((es.toList.map (WideElems.rg P kt rR)).foldr DataW.insert [])/\FZ P kt jS D kv/\
  w.heap[r]? = some (.mapIter (some b) since seen c0)/\(∀y∈es.toList,y.born<since)/\
  (∀y∈es.toList,left (WideElems.rg P kt rR y).1 = !seen.contains y.born)/\(∀kl,left kl=true->∃y∈es.toList,(WideElems.rg P kt rR y).1=kl)/\since<=c0/\since<=n/\
  (∀k kl,keyOf P kt (jS k)=some kl->(left kl=true↔k∈x.1.map (·.1)))/\(∀y∈x.1,jE kv y.1=some y.2)/\
  ∀y,x.2=some y->∃(en:MapEntry) (wm:Array Nat),seen=wm.push en.born/\c0=n/\en∈es.toList/\en.key=jS y.1/\en.val=jS y.2
def ic(i j:Nat)(w:World)(l:List (XK×XK))(cs:List Value)(fp:List Nat):Prop:=
 ∃b tt ax,cs=[.iface i (.pointer (some ⟨b,0,none⟩))]/\fp=b::ax.ownBlock.toList/\w.heap[b]? = some (.cells #[ax] tt (0,0))/\w.ownsRow 0 j 4 ax l.length (l.map sG).flatten
def FL(cs:List Value)(fp:List Nat):Prop:=fp=[]/\∃v:Value,cs=[v]/\v.oneCell'=true
def Xy(i:Nat)(w:World)(n:Nat)(cs:List Value)(fp:List Nat):Prop:=∃ax xs,cs=[ax]/\fp=ax.ownBlock.toList/\w.ownsRow 0 i 1 ax n xs
def qY(P:Program)(own:Bool)(i j:Nat)(w:World)(H:FH):(n:Nat)->qc6 n->List Value->List Nat->Prop
 |0,x,cs,fp=>match x with
  |none=>cs=[.map none]/\fp=[]
  |some kv=>∃b,cs=[.map (some b)]/\match own with
   |true=>fp=[b]/\rS P i jS w b kv
   |false=>fp=[]/\∃c,H b=some c/\Jw P i jS c kv
 |1,x,cs,fp=>match own with
  |true=>match x with
   |none=>cs=[.map none]/\fp=[]
   |some kv=>∃b,cs=[.map (some b)]/\fp=[b]/\rS P i xZ w b kv
  |false=>FL cs fp
 |2,x,cs,fp=>cs=[.iface i (uD x)]/\fp=[]
 |3,x,cs,fp=>match own with
  |true=>∃r,cs=[.pointer (some ⟨r,0,none⟩)]/\fp=[r]/\Ly P i w H r x
  |false=>FL cs fp
 |4,x,cs,fp=>match own with
  |true=>match x with
   |none=>cs=[.nilIface]/\fp=[]
   |some l=>ic i j w l cs fp
  |false=>FL cs fp
 |_+5,x,cs,fp=>match own with
  |true=>match x with
   |none=>FL cs fp
   |some n=>Xy i w n cs fp
  |false=>FL cs fp
def qm(P:Program):(τ:Ty)->World->FH->τ.den->List Value->List Nat->Prop
 |.int k,_,_,x,cs,fp=>cs=[.int k x]/\fp=[]
 |.bool,_,_,x,cs,fp=>cs=[.bool x]/\fp=[]
 |.list false _ e,w,H,l,cs,fp=>fp=[]/\∃a cap,cs=[.slice a l.length cap]/\l.length<=cap/\
   (l=[]\/∃b o blk,a=some ⟨b,o,none⟩/\H b=some (.cells blk)/\qd (qm P e w H) l (ct blk o (l.length*e.size)) [])
 |.list true tid e,w,H,l,cs,fp=>∃ax xs aC,cs=[ax]/\fp=ax.ownBlock.toList++aC/\w.ownsRow 0 tid e.size ax l.length xs/\qd (qm P e w H) l xs aC
 |.pair a b,w,H,x,cs,fp=>∃c1 c2 f1 f2,cs=c1++c2/\fp=f1++f2/\qm P a w H x.1 c1 f1/\qm P b w H x.2 c2 f2
 |.str t,w,H,x,cs,fp=>qm P t w H x cs fp
 |.ptr t,w,H,x,cs,fp=>fp=[]/\match x with
   |none=>cs=[.pointer none]
   |some y=>∃b o blk,cs=[.pointer (some ⟨b,o,none⟩)]/\H b=some (.cells blk)/\qm P t w H y (ct blk o t.size) []
 |.op t,w,H,x,cs,fp=>match x with
   |none=>cs=[.pointer none]/\fp=[]
   |some y=>∃b blk tt aC,cs=[.pointer (some ⟨b,0,none⟩)]/\fp=b::aC/\w.heap[b]? = some (.cells blk tt (0,0))/\qm P t w H y blk.toList aC
 |.arr n e,w,H,l,cs,fp=>l.length=n/\qd (qm P e w H) l cs fp
 |.fn a r,_,H,g,cs,fp=>fp=[]/\∃f first aG,cs=[.func (.func f) first aG]/\jD P f/\
   ∀x y,g x=some y->∀H' w' cx,H.le H'->cI H' w'->qm P a w' H' x cx []->
    Calls P f (first ++ #[j7 a cx]++aG) w' λe w''=>∃cy,e = .returned (j7 r cy)/\jO jA w' w''/\qm P r w'' H' y cy []
 |.bQ a b r,_,H,g,cs,fp=>fp=[]/\∃f first aG,cs=[.func (.func f) first aG]/\jD P f/\
   ∀x y z,g x y=some z->∀H' w' cx cy,H.le H'->cI H' w'->qm P a w' H' x cx []->qm P b w' H' y cy []->
    Calls P f (first ++ #[j7 a cx,j7 b cy]++aG) w' λe w''=>∃cz,e = .returned (j7 r cz)/\jO jA w' w''/\qm P r w'' H' z cz []
 |.ext own n i j,w,H,x,cs,fp=>qY P own i j w H n x cs fp
section chunks
variable {α:Type} {R S:α->List Value->List Nat->Prop}
theorem qd.mono(h:∀x c f,R x c f->S x c f):∀{l:List α} {xs fp},qd R l xs fp->qd S l xs fp
 |[],_,_,hh=>hh
 |_::_,_,_,⟨c,xs',f,aC,e1,e2,h1,h2⟩=>⟨c,xs',f,aC,e1,e2,h _ _ _ h1,qd.mono h h2⟩
theorem qd.dB{Q:Nat->Prop}(h:∀x c f,(∀b∈f,Q b)->R x c f->S x c f):∀{l:List α} {xs fp},(∀b∈fp,Q b)->qd R l xs fp->qd S l xs fp
 |[],_,_,_,hh=>hh
 |_::_,_,_,hq,⟨c,xs',f,aC,e1,e2,h1,h2⟩=>
  ⟨c,xs',f,aC,e1,e2,h _ _ _ (λb hb=>hq b (by rw[e2];simp[hb])) h1,qd.dB h (λb hb=>hq b (by rw[e2];simp[hb])) h2⟩
theorem qd.length{n:Nat}(h:∀x c f,R x c f->c.length=n):∀{l:List α} {xs fp},qd R l xs fp->xs.length=l.length*n
 |[],_,_,⟨e,_⟩=>by simp[e]
 |_::l,_,_,⟨c,xs',f,aC,e1,e2,h1,h2⟩=>by
  rw[e1,List.length_append,h _ _ _ h1,qd.length h h2,List.length_cons,Nat.add_mul];omega
theorem qd.all{p:Value->Prop}(h:∀x c f,R x c f->∀v∈c,p v):∀{l:List α} {xs fp},qd R l xs fp->∀v∈xs,p v
 |[],_,_,⟨e,_⟩=>by simp[e]
 |_::l,_,_,⟨c,xs',f,aC,e1,e2,h1,h2⟩=>by
  intro v hv
  rw[e1,List.mem_append]at hv
  exact hv.elim (h _ _ _ h1 v) (qd.all h h2 v)
theorem qd.append:∀{l l':List α} {xs ys fp fq},qd R l xs fp->qd R l' ys fq->qd R (l++l') (xs++ys) (fp++fq)
 |[],_,_,_,_,_,⟨e,e'⟩,hh=>by simpa[e,e']using hh
 |_::_,_,_,_,_,_,⟨c,xs',f,aC,e1,e2,h1,h2⟩,hh=>
  ⟨c,xs'++_,f,aC++_,by rw[e1,List.append_assoc],by rw[e2,List.append_assoc],h1,qd.append h2 hh⟩
theorem qd.split:∀{l l':List α} {xs fp},qd R (l++l') xs fp->∃ys zs f g,xs=ys++zs/\fp=f++g/\qd R l ys f/\qd R l' zs g
 |[],_,xs,fp,hh=>⟨[],xs,[],fp,rfl,rfl,⟨rfl,rfl⟩,hh⟩
 |_::_,_,_,_,⟨c,xs',f,aC,e1,e2,h1,h2⟩=>by
  obtain⟨ys,zs,f2,g2,e3,e4,h3,h4⟩:=qd.split h2
  exact⟨c++ys,zs,f++f2,g2,by rw[e1,e3,List.append_assoc],by rw[e2,e4,List.append_assoc],⟨c,ys,f,f2,rfl,rfl,h1,h3⟩,h4⟩
theorem qd.one{x:α}{c f}(h:R x c f):qd R [x] c f:=⟨c,[],f,[],by simp,by simp,h,rfl,rfl⟩
theorem qd.at{l:List α}{xs fp}(h:qd R l xs fp){i:Nat}{x:α}(hx:l[i]? = some x):
  ∃pre c post f1 f f2,xs=pre++c++post/\fp=f1++f++f2/\qd R (l.take i) pre f1/\R x c f/\qd R (l.drop (i+1)) post f2:=by
 obtain⟨hi,rfl⟩:=List.getElem?_eq_some_iff.1 hx
 have e:l=l.take i++l[i]::l.drop (i+1):=by simp
 rw[e]at h
 obtain⟨ys,zs,f,g,rfl,rfl,h1,c,xs',f',aC,rfl,rfl,h2,h3⟩:=qd.split h
 refine⟨ys,c,xs',f,f',aC,by simp,by simp,?_,?_,?_⟩
 ·exact h1
 ·exact h2
 ·exact h3
theorem qd.take{n:Nat}(hn:∀x c f,R x c f->c.length=n){l:List α}{xs fp}(h:qd R l xs fp)(i:Nat):∃f,qd R (l.take i) (xs.take (i*n)) f/\∃g,fp=f++g:=by
 have e:l=l.take i++l.drop i:=(List.take_append_drop i l).symm
 rw[e]at h
 obtain⟨ys,zs,f,g,rfl,rfl,h1,h2⟩:=qd.split h
 refine⟨f,?_,g,rfl⟩
 have hl:=qd.length hn h1
 by_cases hi:i<=l.length
 ·have:ys.length=i*n:=by rw[hl];simp[hi]
  rw[<-this,List.take_left];exact h1
 ·have h0:l.drop i=[]:=List.drop_eq_nil_of_le (by omega)
  rw[h0]at h2
  obtain⟨rfl,rfl⟩:=h2
  have e2:ys.take (i*n)=ys:=List.take_of_length_le (by rw[hl];refine Nat.mul_le_mul_right _ ?_;simp;omega)
  rw[List.append_nil,e2]
  exact h1
theorem qd.drop{n:Nat}(hn:∀x c f,R x c f->c.length=n){l:List α}{xs fp}(h:qd R l xs fp)(i:Nat):∃f,qd R (l.drop i) (xs.drop (i*n)) f/\∃g,fp=g++f:=by
 have e:l=l.take i++l.drop i:=(List.take_append_drop i l).symm
 rw[e]at h
 obtain⟨ys,zs,f,g,rfl,rfl,h1,h2⟩:=qd.split h
 refine⟨g,?_,f,rfl⟩
 have hl:=qd.length hn h1
 by_cases hi:i<=l.length
 ·have:ys.length=i*n:=by rw[hl];simp[hi]
  rw[<-this,List.drop_left];exact h2
 ·have h0:l.drop i=[]:=List.drop_eq_nil_of_le (by omega)
  rw[h0]at h2 ⊢
  obtain⟨rfl,rfl⟩:=h2
  have e2:ys.drop (i*n)=[]:=List.drop_eq_nil_of_le (by rw[hl];refine Nat.mul_le_mul_right _ ?_;simp;omega)
  rw[List.append_nil,e2]
  exact⟨rfl,rfl⟩
theorem qd.replicate{x:α}{c}(h:R x c []):∀n,qd R (List.replicate n x) (List.replicate n c).flatten []
 |0=>⟨rfl,rfl⟩
 |n+1=>⟨c,(List.replicate n c).flatten,[],[],by simp[List.replicate_succ],rfl,h,qd.replicate h n⟩
end chunks
section aaN
variable {P:Program}
theorem qia{w:World}{tid size n:Nat}{v:Value}{xs:List Value}(h:w.ownsRow 0 tid size v n xs):v.oneCell'=true:=by
 rcases h.2 with⟨rfl,_⟩|⟨g,cap,cur,rfl,_⟩<;>rfl
theorem ZN{w w':World}{tid size n:Nat}{v:Value}{xs:List Value}(h:w.ownsRow 0 tid size v n xs)
  (hb:∀b∈v.ownBlock.toList,w'.heap[b]? = w.heap[b]?):w'.ownsRow 0 tid size v n xs:=by
 refine⟨h.1,?_⟩
 rcases h.2 with hn|⟨g,cap,cur,rfl,h0,hg,rest⟩
 ·exact .inl hn
 ·exact .inr ⟨g,cap,cur,rfl,h0,by rw[hb g (by simp[Value.ownBlock])];exact hg,rest⟩
theorem qY.shape{own:Bool}{i j:Nat}{w:World}{H:FH}:{n:Nat}->{x:qc6 n}->{cs:List Value}->{fp:List Nat}->qY P own i j w H n x cs fp->∃v:Value,cs=[v]/\v.oneCell'=true
 |0,x,cs,fp,h=>by
  cases x with
  |none=>exact⟨_,h.1,rfl⟩
  |some kv=>obtain⟨b,h,_⟩:=h;exact⟨_,h,rfl⟩
 |1,x,cs,fp,h=>by
  cases own with
  |false=>exact h.2
  |true=>
   cases x with
   |none=>exact⟨_,h.1,rfl⟩
   |some kv=>obtain⟨b,h,_⟩:=h;exact⟨_,h,rfl⟩
 |2,x,cs,fp,h=>⟨_,h.1,rfl⟩
 |3,x,cs,fp,h=>by
  cases own with
  |false=>exact h.2
  |true=>obtain⟨b,h,_⟩:=h;exact⟨_,h,rfl⟩
 |4,x,cs,fp,h=>by
  cases own with
  |false=>exact h.2
  |true=>
   cases x with
   |none=>exact⟨_,h.1,rfl⟩
   |some l=>obtain⟨b,tt,ax,h,_⟩:=h;exact⟨_,h,rfl⟩
 |n+5,x,cs,fp,h=>by
  cases own with
  |false=>exact h.2
  |true=>
   cases x with
   |none=>exact h.2
   |some l=>
    obtain⟨ax,xs,h,_,h2⟩:=h
    refine⟨_,h,?_⟩
    rcases h2.2 with⟨rfl,_⟩|⟨g,cap,cur,rfl,_⟩<;>rfl
theorem qY.mono{own:Bool}{i j:Nat}{w w':World}{H H':FH}(hH:H.le H'):{n:Nat}->{x:qc6 n}->{cs:List Value}->{fp:List Nat}->(∀b∈fp,w'.heap[b]? = w.heap[b]?)->qY P own i j w H n x cs fp->qY P own i j w' H' n x cs fp
 |0,x,cs,fp,hw,h=>by
  cases x with
  |none=>exact h
  |some kv=>
   obtain⟨b,h1,h2⟩:=h
   refine⟨b,h1,?_⟩
   cases own with
   |true=>exact⟨h2.1,h2.2.block (hw b (by rw[h2.1];simp))⟩
   |false=>obtain⟨h2,c,h3,h4⟩:=h2;exact⟨h2,c,hH _ _ h3,h4⟩
 |1,x,cs,fp,hw,h=>by
  cases own with
  |false=>exact h
  |true=>
   cases x with
   |none=>exact h
   |some kv=>
    obtain⟨b,h1,h2,h3⟩:=h
    exact⟨b,h1,h2,h3.block (hw b (by rw[h2];simp))⟩
 |2,x,cs,fp,hw,h=>h
 |3,x,cs,fp,hw,h=>by
  cases own with
  |false=>exact h
  |true=>
   obtain⟨r,h1,h2,b,es,n,since,seen,c0,D,left,kv,q1,q2,q3,q4,q5,q6⟩:=h
   exact⟨r,h1,h2,b,es,n,since,seen,c0,D,left,kv,hH _ _ q1,q2,q3,q4,(hw r (by rw[h2];simp)).trans q5,q6⟩
 |4,x,cs,fp,hw,h=>by
  cases own with
  |false=>exact h
  |true=>
   cases x with
   |none=>exact h
   |some l=>
    obtain⟨b,tt,ax,h1,h2,h3,h4⟩:=h
    exact⟨b,tt,ax,h1,h2,(hw b (by rw[h2];simp)).trans h3,ZN h4 (λk hk=>hw k (by rw[h2];exact List.mem_cons_of_mem _ hk))⟩
 |n+5,x,cs,fp,hw,h=>by
  cases own with
  |false=>exact h
  |true=>
   cases x with
   |none=>exact h
   |some l=>
    obtain⟨ax,xs,h1,h2,h3⟩:=h
    exact⟨ax,xs,h1,h2,ZN h3 (λk hk=>hw k (by rw[h2];exact hk))⟩
theorem qY.dg{i j:Nat}{w:World}{H:FH}:{n:Nat}->{x:qc6 n}->{cs:List Value}->{fp:List Nat}->qY P false i j w H n x cs fp->fp=[]
 |0,x,cs,fp,h=>by
  cases x with
  |none=>exact h.2
  |some kv=>obtain⟨b,_,h,_⟩:=h;exact h
 |1,_,_,_,h=>h.1
 |2,_,_,_,h=>h.2
 |3,_,_,_,h=>h.1
 |4,_,_,_,h=>h.1
 |_+5,_,_,_,h=>h.1
theorem qY.closed{i j:Nat}{w:World}{H H':FH}:{n:Nat}->{x:qc6 n}->{cs:List Value}->{fp:List Nat}->Nat.beq n 3=false->qY P true i j w H n x cs fp->qY P true i j w H' n x cs fp
 |0,x,cs,fp,_,h=>by
  cases x with
  |none=>exact h
  |some kv=>exact h
 |1,x,_,_,_,h=>h
 |2,_,_,_,_,h=>h
 |3,_,_,_,hn,_=>by cases hn
 |4,_,_,_,_,h=>h
 |_+5,_,_,_,_,h=>h
theorem Ty.size_pos:(τ:Ty)->τ.isAgg=false->(∀a b,τ≠.pair a b)->τ.size=1
 |.int _,_,_=>rfl
 |.bool,_,_=>rfl
 |.list _ _ _,_,_=>rfl
 |.pair a b,_,h=>absurd rfl (h a b)
 |.ptr _,_,_=>rfl
 |.op _,_,_=>rfl
 |.fn _ _,_,_=>rfl
 |.ext _ _ _ _,_,_=>rfl
 |.bQ _ _ _,_,_=>rfl
 |.str _,h,_=>by simp[Ty.isAgg]at h
 |.arr _ _,h,_=>by simp[Ty.isAgg]at h
theorem qm.length:(τ:Ty)->∀{w H x cs fp},qm P τ w H x cs fp->cs.length=τ.size
 |.int _,_,_,_,_,_,h=>by rw[h.1];rfl
 |.bool,_,_,_,_,_,h=>by rw[h.1];rfl
 |.list false _ _,_,_,_,_,_,h=>by obtain⟨_,_,_,e,_⟩:=h;rw[e];rfl
 |.list true _ _,_,_,_,_,_,h=>by obtain⟨_,_,_,e,_⟩:=h;rw[e];rfl
 |.pair a b,_,_,_,_,_,h=>by
  obtain⟨c1,c2,f1,f2,e,_,h1,h2⟩:=h
  rw[e,List.length_append,qm.length a h1,qm.length b h2];rfl
 |.str t,_,_,_,_,_,h=>qm.length t h
 |.ptr t,_,_,x,_,_,h=>by
  cases x with
  |none=>rw[h.2];rfl
  |some y=>obtain⟨_,_,_,_,e,_⟩:=h;rw[e];rfl
 |.op t,_,_,x,_,_,h=>by
  cases x with
  |none=>rw[h.1];rfl
  |some y=>obtain⟨_,_,_,_,e,_⟩:=h;rw[e];rfl
 |.arr n e,_,_,_,_,_,h=>by
  rw[qd.length (n:=e.size) (λ_ _ _ hh=>qm.length e hh) h.2,h.1];rfl
 |.fn _ _,_,_,_,_,_,h=>by obtain⟨_,_,_,_,e,_⟩:=h;rw[e];rfl
 |.ext _ _ _ _,_,_,_,_,_,h=>by obtain⟨v,e,_⟩:=qY.shape h;rw[e];rfl
 |.bQ _ _ _,_,_,_,_,_,h=>by obtain⟨_,_,_,_,e,_⟩:=h;rw[e];rfl
theorem qm.one:(τ:Ty)->∀{w H x cs fp},qm P τ w H x cs fp->∀v∈cs,v.oneCell'=true
 |.int _,_,_,_,_,_,h=>by rw[h.1];simp[Value.oneCell']
 |.bool,_,_,_,_,_,h=>by rw[h.1];simp[Value.oneCell']
 |.list false _ _,_,_,_,_,_,h=>by obtain⟨_,_,_,e,_⟩:=h;rw[e];simp[Value.oneCell']
 |.list true _ _,_,_,_,_,_,h=>by
  obtain⟨_,_,_,e,_,ho,_⟩:=h
  rw[e];simpa using qia ho
 |.pair a b,_,_,_,_,_,h=>by
  obtain⟨c1,c2,f1,f2,e,_,h1,h2⟩:=h
  intro v hv
  rw[e,List.mem_append]at hv
  exact hv.elim (qm.one a h1 v) (qm.one b h2 v)
 |.str t,_,_,_,_,_,h=>qm.one t h
 |.ptr t,_,_,x,_,_,h=>by
  cases x with
  |none=>rw[h.2];simp[Value.oneCell']
  |some y=>obtain⟨_,_,_,_,e,_⟩:=h;rw[e];simp[Value.oneCell']
 |.op t,_,_,x,_,_,h=>by
  cases x with
  |none=>rw[h.1];simp[Value.oneCell']
  |some y=>obtain⟨_,_,_,_,e,_⟩:=h;rw[e];simp[Value.oneCell']
 |.arr n e,_,_,_,_,_,h=>qd.all (λ_ _ _ hh=>qm.one e hh) h.2
 |.fn _ _,_,_,_,_,_,h=>by obtain⟨_,_,_,_,e,_⟩:=h;rw[e];simp[Value.oneCell']
 |.ext _ _ _ _,_,_,_,_,_,h=>by obtain⟨v,e,h1⟩:=qY.shape h;rw[e];simpa using h1
 |.bQ _ _ _,_,_,_,_,_,h=>by obtain⟨_,_,_,_,e,_⟩:=h;rw[e];simp[Value.oneCell']
theorem qm.mono:(τ:Ty)->∀{w w':World} {H H':FH} {x cs fp},H.le H'->(∀b∈fp,w'.heap[b]? = w.heap[b]?)->qm P τ w H x cs fp->qm P τ w' H' x cs fp
 |.int _,_,_,_,_,_,_,_,_,_,h=>h
 |.bool,_,_,_,_,_,_,_,_,_,h=>h
 |.list false _ e,w,w',H,H',l,cs,fp,hH,_,h=>by
  obtain⟨e0,a,cap,e1,hc,h2⟩:=h
  refine⟨e0,a,cap,e1,hc,h2.imp id ?_⟩
  rintro⟨b,o,blk,ea,hb,hch⟩
  exact⟨b,o,blk,ea,hH _ _ hb,qd.dB (Q:=λ_=>False) (λx c f hf hr=>qm.mono e hH (λb hb=>(hf b hb).elim) hr) (by simp) hch⟩
 |.list true tid e,w,w',H,H',l,cs,fp,hH,hw,h=>by
  obtain⟨ax,xs,aC,e1,e2,ho,hch⟩:=h
  refine⟨ax,xs,aC,e1,e2,ZN ho (λb hb=>hw b (by rw[e2];simp[hb])),?_⟩
  exact qd.dB (Q:=λb=>w'.heap[b]? = w.heap[b]?) (λx c f hf hr=>qm.mono e hH hf hr) (λb hb=>hw b (by rw[e2];simp[hb])) hch
 |.pair a b,w,w',H,H',x,cs,fp,hH,hw,h=>by
  obtain⟨c1,c2,f1,f2,e,ef,h1,h2⟩:=h
  exact⟨c1,c2,f1,f2,e,ef,qm.mono a hH (λb hb=>hw b (by rw[ef];simp[hb])) h1,qm.mono b hH (λb hb=>hw b (by rw[ef];simp[hb])) h2⟩
 |.str t,_,_,_,_,_,_,_,hH,hw,h=>qm.mono t hH hw h
 |.ptr t,w,w',H,H',x,cs,fp,hH,hw,h=>by
  obtain⟨e0,h⟩:=h
  refine⟨e0,?_⟩
  cases x with
  |none=>exact h
  |some y=>
   obtain⟨b,o,blk,e1,hb,hr⟩:=h
   exact⟨b,o,blk,e1,hH _ _ hb,qm.mono t hH (by simp) hr⟩
 |.op t,w,w',H,H',x,cs,fp,hH,hw,h=>by
  cases x with
  |none=>exact h
  |some y=>
   obtain⟨b,blk,tt,aC,e1,e2,hb,hr⟩:=h
   exact⟨b,blk,tt,aC,e1,e2,(hw b (by rw[e2];simp)).trans hb,qm.mono t hH (λk hk=>hw k (by rw[e2];simp[hk])) hr⟩
 |.arr n e,w,w',H,H',l,cs,fp,hH,hw,h=>
  ⟨h.1,qd.dB (Q:=λb=>w'.heap[b]? = w.heap[b]?) (λx c f hf hr=>qm.mono e hH hf hr) hw h.2⟩
 |.fn a r,w,w',H,H',g,cs,fp,hH,hw,h=>by
  obtain⟨e0,f,first,aG,e1,hc,h2⟩:=h
  exact⟨e0,f,first,aG,e1,hc,λx y hg H2 w2 cx hle=>h2 x y hg H2 w2 cx (FH.le_trans hH hle)⟩
 |.ext _ _ _ _,_,_,_,_,_,_,_,hH,hw,h=>qY.mono hH hw h
 |.bQ a b r,w,w',H,H',g,cs,fp,hH,hw,h=>by
  obtain⟨e0,f,first,aG,e1,hc,h2⟩:=h
  exact⟨e0,f,first,aG,e1,hc,λx y z hg H2 w2 cx cy hle=>h2 x y z hg H2 w2 cx cy (FH.le_trans hH hle)⟩
theorem qd.iE{α:Type}{R:α->List Value->List Nat->Prop}(h:∀x c f,R x c f->f=[]):∀{l:List α} {xs fp},qd R l xs fp->fp=[]
 |[],_,_,⟨_,e⟩=>e
 |_::_,_,_,⟨c,xs',f,aC,e1,e2,h1,h2⟩=>by rw[e2,h _ _ _ h1,qd.iE h h2];rfl
theorem qm.dg:(τ:Ty)->τ.ay=true->∀{w H x cs fp},qm P τ w H x cs fp->fp=[]
 |.int _,_,_,_,_,_,_,h=>h.2
 |.bool,_,_,_,_,_,_,h=>h.2
 |.list false _ _,_,_,_,_,_,_,h=>h.1
 |.list true _ _,hf,_,_,_,_,_,_=>by simp[Ty.ay]at hf
 |.pair a b,hf,_,_,_,_,_,h=>by
  simp only[Ty.ay,Bool.and_eq_true]at hf
  obtain⟨c1,c2,f1,f2,_,ef,h1,h2⟩:=h
  rw[ef,qm.dg a hf.1 h1,qm.dg b hf.2 h2];rfl
 |.str t,hf,_,_,_,_,_,h=>qm.dg t (by simpa[Ty.ay]using hf) h
 |.ptr _,_,_,_,_,_,_,h=>h.1
 |.op _,hf,_,_,_,_,_,_=>by simp[Ty.ay]at hf
 |.arr _ e,hf,_,_,_,_,_,h=>qd.iE (λ_ _ _ hh=>qm.dg e (by simpa[Ty.ay]using hf) hh) h.2
 |.fn _ _,_,_,_,_,_,_,h=>h.1
 |.ext own _ _ _,hf,_,_,_,_,_,h=>by
  cases own with
  |true=>simp[Ty.ay]at hf
  |false=>exact qY.dg h
 |.bQ _ _ _,_,_,_,_,_,_,h=>h.1
theorem qm.closed:(τ:Ty)->τ.isClosed=true->∀{w H H' x cs fp},qm P τ w H x cs fp->qm P τ w H' x cs fp
 |.int _,_,_,_,_,_,_,_,h=>h
 |.bool,_,_,_,_,_,_,_,h=>h
 |.list false _ _,hf,_,_,_,_,_,_,_=>by simp[Ty.isClosed]at hf
 |.list true _ e,hf,_,_,_,_,_,_,h=>by
  obtain⟨ax,xs,aC,e1,e2,ho,hch⟩:=h
  exact⟨ax,xs,aC,e1,e2,ho,qd.mono (λ_ _ _ hh=>qm.closed e (by simpa[Ty.isClosed]using hf) hh) hch⟩
 |.pair a b,hf,_,_,_,_,_,_,h=>by
  simp only[Ty.isClosed,Bool.and_eq_true]at hf
  obtain⟨c1,c2,f1,f2,e,ef,h1,h2⟩:=h
  exact⟨c1,c2,f1,f2,e,ef,qm.closed a hf.1 h1,qm.closed b hf.2 h2⟩
 |.str t,hf,_,_,_,_,_,_,h=>qm.closed t (by simpa[Ty.isClosed]using hf) h
 |.ptr _,hf,_,_,_,_,_,_,_=>by simp[Ty.isClosed]at hf
 |.op t,hf,_,_,_,x,_,_,h=>by
  cases x with
  |none=>exact h
  |some y=>
   obtain⟨b,blk,tt,aC,e1,e2,hb,hr⟩:=h
   exact⟨b,blk,tt,aC,e1,e2,hb,qm.closed t (by simpa[Ty.isClosed]using hf) hr⟩
 |.arr _ e,hf,_,_,_,_,_,_,h=>⟨h.1,qd.mono (λ_ _ _ hh=>qm.closed e (by simpa[Ty.isClosed]using hf) hh) h.2⟩
 |.fn _ _,hf,_,_,_,_,_,_,_=>by simp[Ty.isClosed]at hf
 |.ext own n _ _,hf,_,_,_,_,_,_,h=>by
  simp only[Ty.isClosed,Bool.and_eq_true,Bool.not_eq_true']at hf
  obtain⟨h1,h2⟩:=hf
  subst h1
  exact qY.closed h2 h
 |.bQ _ _ _,hf,_,_,_,_,_,_,_=>by simp[Ty.isClosed]at hf
theorem Ty.bg:(τ:Ty)->τ.az=true->τ.isClosed=true
 |.int _,_=>rfl
 |.bool,_=>rfl
 |.list _ _ _,h=>by simp[Ty.az]at h
 |.pair a b,h=>by
  simp only[Ty.az,Bool.and_eq_true]at h
  simp[Ty.isClosed,Ty.bg a h.1,Ty.bg b h.2]
 |.str t,h=>Ty.bg t (by simpa[Ty.az]using h)
 |.ptr _,h=>by simp[Ty.az]at h
 |.op _,h=>by simp[Ty.az]at h
 |.arr _ e,h=>Ty.bg e (by simpa[Ty.az]using h)
 |.fn _ _,h=>by simp[Ty.az]at h
 |.ext _ _ _ _,h=>by simp[Ty.az]at h
 |.bQ _ _ _,h=>by simp[Ty.az]at h
theorem Ty.fM:(τ:Ty)->τ.az=true->τ.ay=true
 |.int _,_=>rfl
 |.bool,_=>rfl
 |.list _ _ _,h=>by simp[Ty.az]at h
 |.pair a b,h=>by
  simp only[Ty.az,Bool.and_eq_true]at h
  simp[Ty.ay,Ty.fM a h.1,Ty.fM b h.2]
 |.str t,h=>Ty.fM t (by simpa[Ty.az]using h)
 |.ptr _,h=>by simp[Ty.az]at h
 |.op _,h=>by simp[Ty.az]at h
 |.arr _ e,h=>Ty.fM e (by simpa[Ty.az]using h)
 |.fn _ _,h=>by simp[Ty.az]at h
 |.ext _ _ _ _,h=>by simp[Ty.az]at h
 |.bQ _ _ _,h=>by simp[Ty.az]at h
theorem qm.zero:(τ:Ty)->τ.aD=true->∀{w H},qm P τ w H τ.zero τ.zeroCells []
 |.int _,_,_,_=>⟨rfl,rfl⟩
 |.bool,_,_,_=>⟨rfl,rfl⟩
 |.list false _ _,_,_,_=>⟨rfl,none,0,rfl,Nat.le_refl _,.inl rfl⟩
 |.list true tid e,_,w,_=>⟨.slice none 0 0,[],[],rfl,rfl,World.ownsRow_nil w 0 tid e.size,rfl,rfl⟩
 |.pair a b,h,_,_=>by
  simp only[Ty.aD,Bool.and_eq_true]at h
  exact⟨_,_,[],[],rfl,rfl,qm.zero a h.1,qm.zero b h.2⟩
 |.str t,h,_,_=>qm.zero t (by simpa[Ty.aD]using h)
 |.ptr _,_,_,_=>⟨rfl,rfl⟩
 |.op _,_,_,_=>⟨rfl,rfl⟩
 |.arr n e,h,_,_=>⟨by simp[Ty.zero],qd.replicate (qm.zero e (by simpa[Ty.aD]using h)) n⟩
 |.fn _ _,h,_,_=>by simp[Ty.aD]at h
 |.ext _ _ _ _,h,_,_=>by simp[Ty.aD]at h
 |.bQ _ _ _,h,_,_=>by simp[Ty.aD]at h
theorem Ty.aA:(τ:Ty)->τ.zeroCells.length=τ.size
 |.int _=>rfl
 |.bool=>rfl
 |.list _ _ _=>rfl
 |.pair a b=>by simp[Ty.zeroCells,Ty.size,Ty.aA a,Ty.aA b]
 |.str t=>Ty.aA t
 |.ptr _=>rfl
 |.op _=>rfl
 |.arr n e=>by simp[Ty.zeroCells,Ty.size,Ty.aA e]
 |.fn _ _=>rfl
 |.ext _ n _ _=>match n with
  |0=>rfl
  |1=>rfl
  |2=>rfl
  |3=>rfl
  |4=>rfl
  |_+5=>rfl
 |.bQ _ _ _=>rfl
theorem Ty.dm:(τ:Ty)->∀v∈τ.zeroCells,v.oneCell'=true
 |.int _=>by simp[Ty.zeroCells,Value.oneCell']
 |.bool=>by simp[Ty.zeroCells,Value.oneCell']
 |.list _ _ _=>by simp[Ty.zeroCells,Value.oneCell']
 |.pair a b=>by
  intro v hv
  simp only[Ty.zeroCells,List.mem_append]at hv
  exact hv.elim (Ty.dm a v) (Ty.dm b v)
 |.str t=>Ty.dm t
 |.ptr _=>by simp[Ty.zeroCells,Value.oneCell']
 |.op _=>by simp[Ty.zeroCells,Value.oneCell']
 |.arr n e=>by
  intro v hv
  simp only[Ty.zeroCells,List.mem_flatten,List.mem_replicate]at hv
  obtain⟨l,⟨_,rfl⟩,hv⟩:=hv
  exact Ty.dm e v hv
 |.fn _ _=>by simp[Ty.zeroCells,Value.oneCell']
 |.ext _ n _ _=>match n with
  |0=>by simp[Ty.zeroCells,Value.oneCell']
  |1=>by simp[Ty.zeroCells,Value.oneCell']
  |2=>by simp[Ty.zeroCells,Value.oneCell']
  |3=>by simp[Ty.zeroCells,Value.oneCell']
  |4=>by simp[Ty.zeroCells,Value.oneCell']
  |_+5=>by simp[Ty.zeroCells,Value.oneCell']
 |.bQ _ _ _=>by simp[Ty.zeroCells,Value.oneCell']
end aaN
end Go.Vi
namespace Go.Vi
theorem qhy{α β:Type}(h1:α=β)(h:List α=List β)(l:List α):cast h l=l.map (cast h1):=by
 subst h1
 have e:(cast rfl:α->α)=id:=rfl
 rw[e,List.map_id]
 rfl
theorem qkt{α β γ δ:Type}(h1:α=β)(h2:γ=δ)(h:(α×γ)=(β×δ))(x:α×γ):cast h x=(cast h1 x.1,cast h2 x.2):=by
 subst h1;subst h2
 rfl
theorem qmv{α β:Type}(h1:α=β)(h:Option α=Option β)(x:Option α):cast h x=x.map (cast h1):=by
 subst h1
 cases x<;>rfl
theorem Ty.dy:(τ:Ty)->τ.fz.size=τ.size
 |.int _=>rfl
 |.bool=>rfl
 |.list _ _ _=>rfl
 |.pair a b=>by simp[Ty.fz,Ty.size,Ty.dy a,Ty.dy b]
 |.str t=>Ty.dy t
 |.ptr _=>rfl
 |.op _=>rfl
 |.arr n e=>by simp[Ty.fz,Ty.size,Ty.dy e]
 |.fn _ _=>rfl
 |.ext _ _ _ _=>rfl
 |.bQ _ _ _=>rfl
theorem Ty.tT(τ:Ty):τ.fz.isAgg=τ.isAgg:=by cases τ<;>rfl
theorem Ty.bY:(τ:Ty)->τ.fz.ay=true
 |.int _=>rfl
 |.bool=>rfl
 |.list _ _ e=>by simp[Ty.fz,Ty.ay,Ty.bY e]
 |.pair a b=>by simp[Ty.fz,Ty.ay,Ty.bY a,Ty.bY b]
 |.str t=>by simp[Ty.fz,Ty.ay,Ty.bY t]
 |.ptr t=>by simp[Ty.fz,Ty.ay,Ty.bY t]
 |.op t=>by simp[Ty.fz,Ty.ay,Ty.bY t]
 |.arr _ e=>by simp[Ty.fz,Ty.ay,Ty.bY e]
 |.fn a r=>by simp[Ty.fz,Ty.ay,Ty.bY a,Ty.bY r]
 |.ext _ _ _ _=>rfl
 |.bQ a b r=>by simp[Ty.fz,Ty.ay,Ty.bY a,Ty.bY b,Ty.bY r]
theorem Ty.bf:(τ:Ty)->τ.ay=true->τ.fz=τ
 |.int _,_=>rfl
 |.bool,_=>rfl
 |.list o _ e,h=>by
  simp only[Ty.ay,Bool.and_eq_true,Bool.not_eq_true']at h
  simp[Ty.fz,h.1,Ty.bf e h.2]
 |.pair a b,h=>by
  simp only[Ty.ay,Bool.and_eq_true]at h
  simp[Ty.fz,Ty.bf a h.1,Ty.bf b h.2]
 |.str t,h=>by simp[Ty.fz,Ty.bf t (by simpa[Ty.ay]using h)]
 |.ptr t,h=>by simp[Ty.fz,Ty.bf t (by simpa[Ty.ay]using h)]
 |.op _,h=>by simp[Ty.ay]at h
 |.arr _ e,h=>by simp[Ty.fz,Ty.bf e (by simpa[Ty.ay]using h)]
 |.fn a r,h=>by
  simp only[Ty.ay,Bool.and_eq_true]at h
  simp[Ty.fz,Ty.bf a h.1,Ty.bf r h.2]
 |.ext o _ _ _,h=>by
  simp only[Ty.ay,Bool.not_eq_true']at h
  simp[Ty.fz,h]
 |.bQ a b r,h=>by
  simp only[Ty.ay,Bool.and_eq_true]at h
  simp[Ty.fz,Ty.bf a h.1.1,Ty.bf b h.1.2,Ty.bf r h.2]
theorem qd.iV{α β:Type}{R:α->List Value->List Nat->Prop}{S:β->List Value->List Nat->Prop}(h1:α=β){Q:Nat->Prop}
  (h:∀x c f,(∀b∈f,Q b)->R x c f->S (cast h1 x) c []):∀{l:List α} {xs fp},(∀b∈fp,Q b)->qd R l xs fp->qd S (l.map (cast h1)) xs []
 |[],_,_,_,⟨e,_⟩=>⟨e,rfl⟩
 |_::_,_,_,hq,⟨c,xs',f,aC,e1,e2,h2,h3⟩=>
  ⟨c,xs',[],[],e1,rfl,h _ _ _ (λb hb=>hq b (by rw[e2];simp[hb])) h2,qd.iV h1 h (λb hb=>hq b (by rw[e2];simp[hb])) h3⟩
theorem Rz{c:Array Value}{n:Nat}:ct c 0 n=c.toList.take n:=by simp[ct]
theorem qm.freeze{P:Program}:(τ:Ty)->τ.aD=true->∀{w:World} (w':World) {H H':FH} {x cs fp},H.le H'->
  (∀b∈fp,∀c:FB,c.At w b->H' b=some c)->qm P τ w H x cs fp->∀h:τ.den=τ.fz.den,qm P τ.fz w' H' (cast h x) cs []
 |.int _,_,_,_,_,_,_,_,_,_,_,h,_=>⟨h.1,rfl⟩
 |.bool,_,_,_,_,_,_,_,_,_,_,h,_=>⟨h.1,rfl⟩
 |.list false tid e,hn,w,w',H,H',l,cs,fp,hH,bl,h,hc=>by
  obtain⟨e0,a,cap,e1,hcap,h2⟩:=h
  have h1:e.den=e.fz.den:=(Ty.bR e).symm
  suffices hs:∀l':List e.fz.den,l'=List.map (cast h1) l->qm P (.list false tid e.fz) w' H' l' cs []from hs _ (qhy h1 hc l)
  rintro _ rfl
  refine⟨rfl,a,cap,?_,?_,?_⟩
  ·rw[e1,List.length_map]
  ·rw[List.length_map];exact hcap
  ·refine h2.imp (λhh=>by rw[hh];rfl) ?_
   rintro⟨b,o,blk,ea,hb,hch⟩
   refine⟨b,o,blk,ea,hH _ _ hb,?_⟩
   rw[List.length_map,Ty.dy]
   exact qd.iV h1 (Q:=λ_=>False) (λx c f hf hr=>qm.freeze e (by simpa[Ty.aD]using hn) w' hH (λb hb=>(hf b hb).elim) hr h1) (by simp) hch
 |.list true tid e,hn,w,w',H,H',l,cs,fp,hH,bl,h,hc=>by
  obtain⟨ax,xs,aC,e1,e2,ho,hch⟩:=h
  have h1:e.den=e.fz.den:=(Ty.bR e).symm
  suffices hs:∀l':List e.fz.den,l'=List.map (cast h1) l->qm P (.list false tid e.fz) w' H' l' cs []from hs _ (qhy h1 hc l)
  rintro _ rfl
  rcases ho.2 with⟨rfl,h0⟩|⟨g,cap,cur,rfl,_,hg,hcap,_,hsz,cC⟩
  ·refine⟨rfl,none,0,?_,?_,.inl ?_⟩
   ·rw[e1,List.length_map,h0]
   ·rw[List.length_map,h0];exact Nat.le_refl _
   ·rw[List.length_eq_zero_iff.1 h0];rfl
  ·refine⟨rfl,some ⟨g,0,none⟩,cap,?_,?_,.inr ⟨g,0,cur,rfl,?_,?_⟩⟩
   ·rw[e1,List.length_map]
   ·rw[List.length_map];exact hcap
   ·exact bl g (by rw[e2];simp[Value.ownBlock]) (.cells _) ⟨_,_,hg⟩
   ·rw[List.length_map,Ty.dy,Rz,cC]
    exact qd.iV h1 (Q:=λb=>∀c:FB,c.At w b->H' b=some c) (λx c f hf hr=>qm.freeze e (by simpa[Ty.aD]using hn) w' hH hf hr h1) (λb hb=>bl b (by rw[e2];simp[hb])) hch
 |.pair a b,hn,w,w',H,H',x,cs,fp,hH,bl,h,hc=>by
  simp only[Ty.aD,Bool.and_eq_true]at hn
  obtain⟨c1,c2,f1,f2,e,ef,h1,h2⟩:=h
  have ha:a.den=a.fz.den:=(Ty.bR a).symm
  have hb:b.den=b.fz.den:=(Ty.bR b).symm
  suffices hs:∀x':a.fz.den×b.fz.den,x'=(cast ha x.1,cast hb x.2)->qm P (.pair a.fz b.fz) w' H' x' cs []from hs _ (qkt ha hb hc x)
  rintro _ rfl
  exact⟨c1,c2,[],[],e,rfl,qm.freeze a hn.1 w' hH (λk hk=>bl k (by rw[ef];simp[hk])) h1 ha,qm.freeze b hn.2 w' hH (λk hk=>bl k (by rw[ef];simp[hk])) h2 hb⟩
 |.str t,hn,_,w',_,_,_,_,_,hH,bl,h,hc=>qm.freeze t (by simpa[Ty.aD]using hn) w' hH bl h hc
 |.ptr t,hn,w,w',H,H',x,cs,fp,hH,bl,h,hc=>by
  obtain⟨e0,h⟩:=h
  have h1:t.den=t.fz.den:=(Ty.bR t).symm
  suffices hs:∀x':Option t.fz.den,x'=Option.map (cast h1) x->qm P (.ptr t.fz) w' H' x' cs []from hs _ (qmv h1 hc x)
  rintro _ rfl
  refine⟨rfl,?_⟩
  cases x with
  |none=>exact h
  |some y=>
   obtain⟨b,o,blk,e1,hb,hr⟩:=h
   refine⟨b,o,blk,e1,hH _ _ hb,?_⟩
   rw[Ty.dy]
   exact qm.freeze t (by simpa[Ty.aD]using hn) w' hH (by simp) hr h1
 |.op t,hn,w,w',H,H',x,cs,fp,hH,bl,h,hc=>by
  have h1:t.den=t.fz.den:=(Ty.bR t).symm
  suffices hs:∀x':Option t.fz.den,x'=Option.map (cast h1) x->qm P (.ptr t.fz) w' H' x' cs []from hs _ (qmv h1 hc x)
  rintro _ rfl
  refine⟨rfl,?_⟩
  cases x with
  |none=>exact h.1
  |some y=>
   obtain⟨b,blk,tt,aC,e1,e2,hb,hr⟩:=h
   refine⟨b,0,blk,e1,bl b (by rw[e2];simp) (.cells _) ⟨_,_,hb⟩,?_⟩
   have eB:ct blk 0 t.fz.size=blk.toList:=by rw[Rz,Ty.dy];exact List.take_of_length_le (Nat.le_of_eq (qm.length t hr))
   rw[eB]
   exact qm.freeze t (by simpa[Ty.aD]using hn) w' hH (λk hk=>bl k (by rw[e2];simp[hk])) hr h1
 |.arr n e,hn,w,w',H,H',l,cs,fp,hH,bl,h,hc=>by
  have h1:e.den=e.fz.den:=(Ty.bR e).symm
  suffices hs:∀l':List e.fz.den,l'=List.map (cast h1) l->qm P (.arr n e.fz) w' H' l' cs []from hs _ (qhy h1 hc l)
  rintro _ rfl
  exact⟨by rw[List.length_map];exact h.1,qd.iV h1 (λx c f hf hr=>qm.freeze e (by simpa[Ty.aD]using hn) w' hH hf hr h1) bl h.2⟩
 |.fn _ _,hn,_,_,_,_,_,_,_,_,_,_,_=>by simp[Ty.aD]at hn
 |.ext _ _ _ _,hn,_,_,_,_,_,_,_,_,_,_,_=>by simp[Ty.aD]at hn
 |.bQ _ _ _,hn,_,_,_,_,_,_,_,_,_,_,_=>by simp[Ty.aD]at hn
theorem qY.freeze{P:Program}{own:Bool}{i j:Nat}{w:World}(w':World){H H':FH}(hH:H.le H'):{n:Nat}->{x:qc6 n}->{cs:List Value}->{fp:List Nat}->(∀b∈fp,∀c:FB,c.At w b->H' b=some c)->qY P own i j w H n x cs fp->qY P false i j w' H' n x cs []
 |0,x,cs,fp,bl,h=>by
  cases x with
  |none=>exact⟨h.1,rfl⟩
  |some kv=>
   obtain⟨b,h1,h2⟩:=h
   refine⟨b,h1,rfl,?_⟩
   cases own with
   |true=>
    obtain⟨es,n,h3,h4⟩:=h2.2.fz
    exact⟨_,bl b (by rw[h2.1];simp) (.map es n) h3,h4⟩
   |false=>obtain⟨_,c,h3,h4⟩:=h2;exact⟨c,hH _ _ h3,h4⟩
 |1,x,cs,fp,bl,h=>⟨rfl,qY.shape h⟩
 |2,x,cs,fp,bl,h=>⟨h.1,rfl⟩
 |3,x,cs,fp,bl,h=>⟨rfl,qY.shape h⟩
 |4,x,cs,fp,bl,h=>⟨rfl,qY.shape h⟩
 |n+5,x,cs,fp,bl,h=>⟨rfl,qY.shape h⟩
theorem qm.eD{P:Program}:(τ:Ty)->τ.eM=true->∀{w:World} (w':World) {H H':FH} {x cs fp},H.le H'->
  (∀b∈fp,∀c:FB,c.At w b->H' b=some c)->qm P τ w H x cs fp->∀h:τ.den=τ.fz.den,qm P τ.fz w' H' (cast h x) cs []
 |.pair a b,hn,w,w',H,H',x,cs,fp,hH,bl,h,hc=>by
  simp only[Ty.eM,Bool.and_eq_true]at hn
  obtain⟨c1,c2,f1,f2,e,ef,h1,h2⟩:=h
  have ha:a.den=a.fz.den:=(Ty.bR a).symm
  have hb:b.den=b.fz.den:=(Ty.bR b).symm
  suffices hs:∀x':a.fz.den×b.fz.den,x'=(cast ha x.1,cast hb x.2)->qm P (.pair a.fz b.fz) w' H' x' cs []from hs _ (qkt ha hb hc x)
  rintro _ rfl
  exact⟨c1,c2,[],[],e,rfl,qm.eD a hn.1 w' hH (λk hk=>bl k (by rw[ef];simp[hk])) h1 ha,qm.eD b hn.2 w' hH (λk hk=>bl k (by rw[ef];simp[hk])) h2 hb⟩
 |.str t,hn,_,w',_,_,_,_,_,hH,bl,h,hc=>qm.eD t (by simpa[Ty.eM]using hn) w' hH bl h hc
 |.ext own n i j,_,w,w',H,H',x,cs,fp,hH,bl,h,hc=>by
  have e:cast hc x=(x:qc6 n):=rfl
  rw[e]
  exact qY.freeze (n:=n) w' hH bl h
 |.int k,hn,_,w',_,_,_,_,_,hH,bl,h,hc=>qm.freeze (.int k) hn w' hH bl h hc
 |.bool,hn,_,w',_,_,_,_,_,hH,bl,h,hc=>qm.freeze .bool hn w' hH bl h hc
 |.list o t e,hn,_,w',_,_,_,_,_,hH,bl,h,hc=>qm.freeze (.list o t e) hn w' hH bl h hc
 |.ptr t,hn,_,w',_,_,_,_,_,hH,bl,h,hc=>qm.freeze (.ptr t) hn w' hH bl h hc
 |.op t,hn,_,w',_,_,_,_,_,hH,bl,h,hc=>qm.freeze (.op t) hn w' hH bl h hc
 |.arr n e,hn,_,w',_,_,_,_,_,hH,bl,h,hc=>qm.freeze (.arr n e) hn w' hH bl h hc
 |.fn a r,hn,_,w',_,_,_,_,_,hH,bl,h,hc=>qm.freeze (.fn a r) hn w' hH bl h hc
 |.bQ a b r,hn,_,w',_,_,_,_,_,hH,bl,h,hc=>qm.freeze (.bQ a b r) hn w' hH bl h hc
theorem Ty.bI:(τ:Ty)->τ.aD=true->τ.eM=true
 |.pair a b,h=>by
  simp only[Ty.aD,Bool.and_eq_true]at h
  simp[Ty.eM,Ty.bI a h.1,Ty.bI b h.2]
 |.str t,h=>Ty.bI t (by simpa[Ty.aD]using h)
 |.ext _ _ _ _,h=>rfl
 |.int _,h=>h
 |.bool,h=>h
 |.list _ _ _,h=>h
 |.ptr _,h=>h
 |.op _,h=>h
 |.arr _ _,h=>h
 |.fn _ _,h=>h
 |.bQ _ _ _,h=>h
theorem Ty.eG:(τ:Ty)->τ.de=true->τ.eM=true
 |.pair a b,h=>by
  simp only[Ty.de,Bool.and_eq_true]at h
  simp[Ty.eM,Ty.eG a h.1,Ty.eG b h.2]
 |.str t,h=>Ty.eG t (by simpa[Ty.de]using h)
 |.ext _ _ _ _,h=>rfl
 |.int _,h=>h
 |.bool,h=>h
 |.list _ _ _,h=>h
 |.ptr _,h=>h
 |.op _,h=>h
 |.arr _ _,h=>h
 |.fn _ _,h=>h
 |.bQ _ _ _,h=>h
theorem qY.zero{P:Program}{own:Bool}{i j:Nat}{w:World}{H:FH}:{n:Nat}->(Nat.beq n 2||Nat.beq n 3)=false->qY P own i j w H n (qc6.zero n) (Ty.ext own n i j).zeroCells []
 |0,_=>⟨rfl,rfl⟩
 |1,_=>by
  cases own with
  |true=>exact⟨rfl,rfl⟩
  |false=>exact⟨rfl,_,rfl,rfl⟩
 |2,h=>by cases h
 |3,h=>by cases h
 |4,_=>by
  cases own with
  |true=>exact⟨rfl,rfl⟩
  |false=>exact⟨rfl,_,rfl,rfl⟩
 |n+5,_=>by
  cases own with
  |true=>exact⟨.slice none 0 0,[],rfl,rfl,World.ownsRow_nil w 0 i 1⟩
  |false=>exact⟨rfl,_,rfl,rfl⟩
theorem qm.de{P:Program}:(τ:Ty)->τ.de=true->∀{w H},qm P τ w H τ.zero τ.zeroCells []
 |.pair a b,h,_,_=>by
  simp only[Ty.de,Bool.and_eq_true]at h
  exact⟨_,_,[],[],rfl,rfl,qm.de a h.1,qm.de b h.2⟩
 |.str t,h,_,_=>qm.de t (by simpa[Ty.de]using h)
 |.ext own n i j,h,_,_=>qY.zero (n:=n) (by simpa only[Ty.de,Bool.not_eq_true']using h)
 |.int k,h,_,_=>qm.zero (.int k) h
 |.bool,h,_,_=>qm.zero .bool h
 |.list o t e,h,_,_=>qm.zero (.list o t e) h
 |.ptr t,h,_,_=>qm.zero (.ptr t) h
 |.op t,h,_,_=>qm.zero (.op t) h
 |.arr n e,h,_,_=>qm.zero (.arr n e) h
 |.fn a r,h,_,_=>qm.zero (.fn a r) h
 |.bQ a b r,h,_,_=>qm.zero (.bQ a b r) h
def qU:(τ:Ty)->τ.den->List qu->Option (Σ σ:Ty,σ.den)
 |.pair a b,x,p=>match p with
  |[]=>some ⟨.pair a b,x⟩
  |.L::q=>qU a x.1 q
  |.R::q=>qU b x.2 q
  |_=>none
 |.str t,x,p=>match p with
  |[]=>some ⟨.str t,x⟩
  |s::q=>qU t x (s::q)
 |.list true tid e,x,p=>match p with
  |[]=>some ⟨.list true tid e,x⟩
  |.I i::q=>if 0<=i then(x[i.toNat]?).bind λy=>qU e y q else none
  |_=>none
 |.arr n e,x,p=>match p with
  |[]=>some ⟨.arr n e,x⟩
  |.I i::q=>if 0<=i then(x[i.toNat]?).bind λy=>qU e y q else none
  |_=>none
 |.op t,x,p=>match p with
  |[]=>some ⟨.op t,x⟩
  |.I _::q=>x.bind λy=>qU t y q
  |_=>none
 |t,x,p=>match p with
  |[]=>some ⟨t,x⟩
  |_=>none
def j6:(τ:Ty)->τ.den->List qu->(σ:Ty)->σ.den->Option τ.den
 |.pair a b,x,p,σ,y=>match p with
  |[]=>qF σ (.pair a b) y
  |.L::q=>(j6 a x.1 q σ y).map λz=>(z,x.2)
  |.R::q=>(j6 b x.2 q σ y).map λz=>(x.1,z)
  |_=>none
 |.str t,x,p,σ,y=>match p with
  |[]=>qF σ (.str t) y
  |s::q=>j6 t x (s::q) σ y
 |.list true tid e,x,p,σ,y=>match p with
  |[]=>qF σ (.list true tid e) y
  |.I i::q=>if 0<=i then(x[i.toNat]?).bind λz=>(j6 e z q σ y).map λz'=>x.set i.toNat z' else none
  |_=>none
 |.arr n e,x,p,σ,y=>match p with
  |[]=>qF σ (.arr n e) y
  |.I i::q=>if 0<=i then(x[i.toNat]?).bind λz=>(j6 e z q σ y).map λz'=>x.set i.toNat z' else none
  |_=>none
 |.op t,x,p,σ,y=>match p with
  |[]=>qF σ (.op t) y
  |.I _::q=>x.bind λz=>(j6 t z q σ y).map λz'=>some z'
  |_=>none
 |t,_,p,σ,y=>match p with
  |[]=>qF σ t y
  |_=>none
theorem T_{α R:Type}(l:List α)(i:Int)(k:α->Option R):qn l i k=if 0<=i then(l[i.toNat]?).bind k else none:=by
 unfold qn
 split
 ·cases l[i.toNat]?<;>rfl
 ·rfl
theorem qj{α R:Type}(o:Option α)(k:α->Option R):qa o k=o.bind k:=by cases o<;>rfl
theorem jJ{R:Type}:(τ:Ty)->∀(x:τ.den) (p:List qu) (k:(σ:Ty)->σ.den->Option R),iS τ x p k=(qU τ x p).bind λy=>k y.1 y.2
 |.pair a b,x,p,k=>by
  match p with
  |[]=>rfl
  |.L::q=>exact jJ a x.1 q k
  |.R::q=>exact jJ b x.2 q k
  |.I _::_=>rfl
 |.str t,x,p,k=>by
  match p with
  |[]=>rfl
  |s::q=>exact jJ t x (s::q) k
 |.list true tid e,x,p,k=>by
  match p with
  |[]=>rfl
  |.L::_=>rfl
  |.R::_=>rfl
  |.I i::q=>
   show qn x i (λy=>iS e y q k)=_
   rw[T_]
   simp only[qU]
   split
   ·cases x[i.toNat]? with
    |none=>rfl
    |some y=>exact jJ e y q k
   ·rfl
 |.arr n e,x,p,k=>by
  match p with
  |[]=>rfl
  |.L::_=>rfl
  |.R::_=>rfl
  |.I i::q=>
   show qn x i (λy=>iS e y q k)=_
   rw[T_]
   simp only[qU]
   split
   ·cases x[i.toNat]? with
    |none=>rfl
    |some y=>exact jJ e y q k
   ·rfl
 |.op t,x,p,k=>by
  match p with
  |[]=>rfl
  |.L::_=>rfl
  |.R::_=>rfl
  |.I i::q=>
   show qa x (λy=>iS t y q k)=_
   rw[qj]
   simp only[qU]
   cases x with
   |none=>rfl
   |some y=>exact jJ t y q k
 |.int _,_,p,_=>by cases p<;>rfl
 |.bool,_,p,_=>by cases p<;>rfl
 |.list false _ _,_,p,_=>by cases p<;>rfl
 |.ptr _,_,p,_=>by cases p<;>rfl
 |.fn _ _,_,p,_=>by cases p<;>rfl
 |.ext _ _ _ _,_,p,_=>by cases p<;>rfl
 |.bQ _ _ _,_,p,_=>by cases p<;>rfl
theorem sO{R:Type}:(τ:Ty)->∀(x:τ.den) (p:List qu) (σ:Ty) (y:σ.den) (k:τ.den->Option R),iT τ x p σ y k=(j6 τ x p σ y).bind k
 |.pair a b,x,p,σ,y,k=>by
  match p with
  |[]=>exact qj _ _
  |.L::q=>
   show iT a x.1 q σ y _=((j6 a x.1 q σ y).map _).bind k
   rw[sO a x.1 q σ y];cases j6 a x.1 q σ y<;>rfl
  |.R::q=>
   show iT b x.2 q σ y _=((j6 b x.2 q σ y).map _).bind k
   rw[sO b x.2 q σ y];cases j6 b x.2 q σ y<;>rfl
  |.I _::_=>rfl
 |.str t,x,p,σ,y,k=>by
  match p with
  |[]=>exact qj _ _
  |s::q=>exact sO t x (s::q) σ y k
 |.list true tid e,x,p,σ,y,k=>by
  match p with
  |[]=>exact qj _ _
  |.L::_=>rfl
  |.R::_=>rfl
  |.I i::q=>
   show qn x i (λz=>iT e z q σ y λz'=>k (x.set i.toNat z'))=_
   rw[T_]
   simp only[j6]
   split
   ·cases x[i.toNat]? with
    |none=>rfl
    |some z=>
     show iT e z q σ y _=((j6 e z q σ y).map _).bind k
     rw[sO e z q σ y];cases j6 e z q σ y<;>rfl
   ·rfl
 |.arr n e,x,p,σ,y,k=>by
  match p with
  |[]=>exact qj _ _
  |.L::_=>rfl
  |.R::_=>rfl
  |.I i::q=>
   show qn x i (λz=>iT e z q σ y λz'=>k (x.set i.toNat z'))=_
   rw[T_]
   simp only[j6]
   split
   ·cases x[i.toNat]? with
    |none=>rfl
    |some z=>
     show iT e z q σ y _=((j6 e z q σ y).map _).bind k
     rw[sO e z q σ y];cases j6 e z q σ y<;>rfl
   ·rfl
 |.op t,x,p,σ,y,k=>by
  match p with
  |[]=>exact qj _ _
  |.L::_=>rfl
  |.R::_=>rfl
  |.I i::q=>
   show qa x (λz=>iT t z q σ y λz'=>k (some z'))=_
   rw[qj]
   simp only[j6]
   cases x with
   |none=>rfl
   |some z=>
    show iT t z q σ y _=((j6 t z q σ y).map _).bind k
    rw[sO t z q σ y];cases j6 t z q σ y<;>rfl
 |.int _,_,p,_,_,_=>by cases p with|nil=>exact qj _ _|cons=>rfl
 |.bool,_,p,_,_,_=>by cases p with|nil=>exact qj _ _|cons=>rfl
 |.list false _ _,_,p,_,_,_=>by cases p with|nil=>exact qj _ _|cons=>rfl
 |.ptr _,_,p,_,_,_=>by cases p with|nil=>exact qj _ _|cons=>rfl
 |.fn _ _,_,p,_,_,_=>by cases p with|nil=>exact qj _ _|cons=>rfl
 |.ext _ _ _ _,_,p,_,_,_=>by cases p with|nil=>exact qj _ _|cons=>rfl
 |.bQ _ _ _,_,p,_,_,_=>by cases p with|nil=>exact qj _ _|cons=>rfl
theorem qO(τ:Ty)(x:τ.den):qU τ x []=some ⟨τ,x⟩:=by
 cases τ with
 |list o _ _=>cases o<;>rfl
 |_=>rfl
theorem qiD(τ:Ty)(x:τ.den)(σ:Ty)(y:σ.den):j6 τ x [] σ y=qF σ τ y:=by
 cases τ with
 |list o _ _=>cases o<;>rfl
 |_=>rfl
theorem qlA(τ:Ty):kq τ []=some τ:=by
 cases τ with
 |list o _ _=>cases o<;>rfl
 |_=>rfl
theorem qg{τ σ:Ty}{x:τ.den}{y:σ.den}(h:qF τ σ x=some y):∃e:τ=σ,y=e▸x:=by
 unfold qF at h
 split at h
 ·rename_i e;subst e;exact⟨rfl,(Option.some.inj h).symm⟩
 ·cases h
theorem qoI{τ:Ty}{x y:τ.den}(h:qF τ τ x=some y):y=x:=by
 obtain⟨e,h⟩:=qg h
 exact h
theorem jH:(τ:Ty)->∀{x:τ.den} {p:List qu} {y},qU τ x p=some y->kq τ p=some y.1
 |.pair a b,x,p,y,h=>by
  match p with
  |[]=>cases h;rfl
  |.L::q=>exact jH a h
  |.R::q=>exact jH b h
  |.I _::_=>cases h
 |.str t,x,p,y,h=>by
  match p with
  |[]=>cases h;rfl
  |s::q=>exact jH t h
 |.list true tid e,x,p,y,h=>by
  match p with
  |[]=>cases h;rfl
  |.L::_=>cases h
  |.R::_=>cases h
  |.I i::q=>
   simp only[qU]at h
   split at h
   ·cases hx:x[i.toNat]? with
    |none=>rw[hx]at h;cases h
    |some z=>rw[hx]at h;exact jH e h
   ·cases h
 |.arr n e,x,p,y,h=>by
  match p with
  |[]=>cases h;rfl
  |.L::_=>cases h
  |.R::_=>cases h
  |.I i::q=>
   simp only[qU]at h
   split at h
   ·cases hx:x[i.toNat]? with
    |none=>rw[hx]at h;cases h
    |some z=>rw[hx]at h;exact jH e h
   ·cases h
 |.op t,x,p,y,h=>by
  match p with
  |[]=>cases h;rfl
  |.L::_=>cases h
  |.R::_=>cases h
  |.I i::q=>
   simp only[qU]at h
   cases x with
   |none=>cases h
   |some z=>exact jH t h
 |.int _,_,p,_,h=>by cases p<;>cases h;rfl
 |.bool,_,p,_,h=>by cases p<;>cases h;rfl
 |.list false _ _,_,p,_,h=>by cases p<;>cases h;rfl
 |.ptr _,_,p,_,h=>by cases p<;>cases h;rfl
 |.fn _ _,_,p,_,h=>by cases p<;>cases h;rfl
 |.ext _ _ _ _,_,p,_,h=>by cases p<;>cases h;rfl
 |.bQ _ _ _,_,p,_,h=>by cases p<;>cases h;rfl
theorem Uq:(τ:Ty)->∀{x:τ.den} {p:List qu} {y},yZ τ x p=some y->qU τ x p=some y
 |.pair a b,x,p,y,h=>by
  match p with
  |[]=>exact h
  |.L::q=>exact Uq a h
  |.R::q=>exact Uq b h
  |.I _::_=>cases h
 |.str t,x,p,y,h=>by
  match p with
  |[]=>exact h
  |s::q=>exact Uq t h
 |.list true tid e,x,p,y,h=>by cases p<;>first|exact h|cases h
 |.arr n e,x,p,y,h=>by cases p<;>first|exact h|cases h
 |.op t,x,p,y,h=>by cases p<;>first|exact h|cases h
 |.int _,_,p,_,h=>by cases p<;>first|exact h|cases h
 |.bool,_,p,_,h=>by cases p<;>first|exact h|cases h
 |.list false _ _,_,p,_,h=>by cases p<;>first|exact h|cases h
 |.ptr _,_,p,_,h=>by cases p<;>first|exact h|cases h
 |.fn _ _,_,p,_,h=>by cases p<;>first|exact h|cases h
 |.ext _ _ _ _,_,p,_,h=>by cases p<;>first|exact h|cases h
 |.bQ _ _ _,_,p,_,h=>by cases p<;>first|exact h|cases h
end Go.Vi
namespace Go.Vi
def jT(w:World):Ty->Nat->Nat->List qu->Nat->Nat->Prop
 |.pair x y,b,o,p,b',o'=>match p with
  |[]=>b'=b/\o'=o
  |.L::q=>jT w x b o q b' o'
  |.R::q=>jT w y b (o+x.size) q b' o'
  |_=>False
 |.str t,b,o,p,b',o'=>match p with
  |[]=>b'=b/\o'=o
  |s::q=>jT w t b o (s::q) b' o'
 |.list true _ e,b,o,p,b',o'=>match p with
  |[]=>b'=b/\o'=o
  |.I i::q=>∃g n cap,w.cell? ⟨b,o,none⟩=some (.slice (some ⟨g,0,none⟩) n cap)/\jT w e g (i.toNat*e.size) q b' o'
  |_=>False
 |.arr _ e,b,o,p,b',o'=>match p with
  |[]=>b'=b/\o'=o
  |.I i::q=>jT w e b (o+i.toNat*e.size) q b' o'
  |_=>False
 |.op t,b,o,p,b',o'=>match p with
  |[]=>b'=b/\o'=o
  |.I _::q=>∃g,w.cell? ⟨b,o,none⟩=some (.pointer (some ⟨g,0,none⟩))/\jT w t g 0 q b' o'
  |_=>False
 |_,b,o,p,b',o'=>p=[]/\b'=b/\o'=o
theorem kV(w:World)(τ:Ty)(b o:Nat):jT w τ b o [] b o:=by
 cases τ with
 |list o _ _=>cases o<;>first|exact⟨rfl,rfl⟩|exact⟨rfl,rfl,rfl⟩
 |_=>first|exact⟨rfl,rfl⟩|exact⟨rfl,rfl,rfl⟩
theorem qw{w:World}{b:Nat}{blk:Array Value}{t:TypeId}{f:Nat×Nat}(h:w.heap[b]? = some (.cells blk t f))(o:Nat):w.cell? ⟨b,o,none⟩=blk[o]?:=by
 simp[World.cell?,h]
theorem jT.static:(τ:Ty)->∀{w w':World} {b o p b' o'},p.any qu.dW=false->jT w τ b o p b' o'->jT w' τ b o p b' o'
 |.pair x y,_,_,_,_,p,_,_,hp,h=>by
  match p with
  |[]=>exact h
  |.L::q=>exact jT.static x (by simpa[qu.dW]using hp) h
  |.R::q=>exact jT.static y (by simpa[qu.dW]using hp) h
  |.I _::_=>exact h.elim
 |.str t,_,_,_,_,p,_,_,hp,h=>by
  match p with
  |[]=>exact h
  |s::q=>exact jT.static t hp h
 |.list true _ e,_,_,_,_,p,_,_,hp,h=>by
  match p with
  |[]=>exact h
  |.L::_=>exact h.elim
  |.R::_=>exact h.elim
  |.I _::_=>simp[qu.dW]at hp
 |.arr _ e,_,_,_,_,p,_,_,hp,h=>by
  match p with
  |[]=>exact h
  |.L::_=>exact h.elim
  |.R::_=>exact h.elim
  |.I _::_=>simp[qu.dW]at hp
 |.op t,_,_,_,_,p,_,_,hp,h=>by
  match p with
  |[]=>exact h
  |.L::_=>exact h.elim
  |.R::_=>exact h.elim
  |.I _::_=>simp[qu.dW]at hp
 |.int _,_,_,_,_,_,_,_,_,h=>h
 |.bool,_,_,_,_,_,_,_,_,h=>h
 |.list false _ _,_,_,_,_,_,_,_,_,h=>h
 |.ptr _,_,_,_,_,_,_,_,_,h=>h
 |.fn _ _,_,_,_,_,_,_,_,_,h=>h
 |.bQ _ _ _,_,_,_,_,_,_,_,_,h=>h
 |.ext _ _ _ _,_,_,_,_,_,_,_,_,h=>h
theorem jT.root:(τ:Ty)->∀{w:World} {b o p b' o'},p.any qu.dW=false->jT w τ b o p b' o'->b'=b
 |.pair x y,_,_,_,p,_,_,hp,h=>by
  match p with
  |[]=>exact h.1
  |.L::q=>exact jT.root x (by simpa[qu.dW]using hp) h
  |.R::q=>exact jT.root y (by simpa[qu.dW]using hp) h
  |.I _::_=>exact h.elim
 |.str t,_,_,_,p,_,_,hp,h=>by
  match p with
  |[]=>exact h.1
  |s::q=>exact jT.root t hp h
 |.list true _ e,_,_,_,p,_,_,hp,h=>by
  match p with
  |[]=>exact h.1
  |.L::_=>exact h.elim
  |.R::_=>exact h.elim
  |.I _::_=>simp[qu.dW]at hp
 |.arr _ e,_,_,_,p,_,_,hp,h=>by
  match p with
  |[]=>exact h.1
  |.L::_=>exact h.elim
  |.R::_=>exact h.elim
  |.I _::_=>simp[qu.dW]at hp
 |.op t,_,_,_,p,_,_,hp,h=>by
  match p with
  |[]=>exact h.1
  |.L::_=>exact h.elim
  |.R::_=>exact h.elim
  |.I _::_=>simp[qu.dW]at hp
 |.int _,_,_,_,_,_,_,_,h=>h.2.1
 |.bool,_,_,_,_,_,_,_,h=>h.2.1
 |.list false _ _,_,_,_,_,_,_,_,h=>h.2.1
 |.ptr _,_,_,_,_,_,_,_,h=>h.2.1
 |.fn _ _,_,_,_,_,_,_,_,h=>h.2.1
 |.bQ _ _ _,_,_,_,_,_,_,_,h=>h.2.1
 |.ext _ _ _ _,_,_,_,_,_,_,_,h=>h.2.1
def Iu:Value->Bool
 |.slice _ _ _=>true
 |.pointer _=>true
 |_=>false
theorem jT.keep:(τ:Ty)->∀{w w':World},(∀a o v,Iu v=true->w.cell? ⟨a,o,none⟩=some v->w'.cell? ⟨a,o,none⟩=some v)->∀{b o p b' o'},jT w τ b o p b' o'->jT w' τ b o p b' o'
 |.pair x y,_,_,hk,_,_,p,_,_,h=>by
  match p with
  |[]=>exact h
  |.L::q=>exact jT.keep x hk h
  |.R::q=>exact jT.keep y hk h
  |.I _::_=>exact h.elim
 |.str t,_,_,hk,_,_,p,_,_,h=>by
  match p with
  |[]=>exact h
  |s::q=>exact jT.keep t hk h
 |.list true _ e,_,_,hk,_,_,p,_,_,h=>by
  match p with
  |[]=>exact h
  |.L::_=>exact h.elim
  |.R::_=>exact h.elim
  |.I _::_=>
   obtain⟨g,n,cap,h1,h2⟩:=h
   exact⟨g,n,cap,hk _ _ _ rfl h1,jT.keep e hk h2⟩
 |.arr _ e,_,_,hk,_,_,p,_,_,h=>by
  match p with
  |[]=>exact h
  |.L::_=>exact h.elim
  |.R::_=>exact h.elim
  |.I _::_=>exact jT.keep e hk h
 |.op t,_,_,hk,_,_,p,_,_,h=>by
  match p with
  |[]=>exact h
  |.L::_=>exact h.elim
  |.R::_=>exact h.elim
  |.I _::_=>
   obtain⟨g,h1,h2⟩:=h
   exact⟨g,hk _ _ _ rfl h1,jT.keep t hk h2⟩
 |.int _,_,_,_,_,_,_,_,_,h=>h
 |.bool,_,_,_,_,_,_,_,_,h=>h
 |.list false _ _,_,_,_,_,_,_,_,_,h=>h
 |.ptr _,_,_,_,_,_,_,_,_,h=>h
 |.fn _ _,_,_,_,_,_,_,_,_,h=>h
 |.bQ _ _ _,_,_,_,_,_,_,_,_,h=>h
 |.ext _ _ _ _,_,_,_,_,_,_,_,_,h=>h
theorem jT.fN:(τ:Ty)->∀{w:World} {b o p b1 o1 b2 o2},jT w τ b o p b1 o1->jT w τ b o p b2 o2->b1=b2/\o1=o2
 |.pair x y,_,_,_,p,_,_,_,_,h,k=>by
  match p with
  |[]=>exact⟨h.1.trans k.1.symm,h.2.trans k.2.symm⟩
  |.L::q=>exact jT.fN x h k
  |.R::q=>exact jT.fN y h k
  |.I _::_=>exact h.elim
 |.str t,_,_,_,p,_,_,_,_,h,k=>by
  match p with
  |[]=>exact⟨h.1.trans k.1.symm,h.2.trans k.2.symm⟩
  |s::q=>exact jT.fN t h k
 |.list true _ e,_,_,_,p,_,_,_,_,h,k=>by
  match p with
  |[]=>exact⟨h.1.trans k.1.symm,h.2.trans k.2.symm⟩
  |.L::_=>exact h.elim
  |.R::_=>exact h.elim
  |.I _::_=>
   obtain⟨g,n,cap,h1,h2⟩:=h
   obtain⟨g',n',cap',k1,k2⟩:=k
   rw[h1]at k1
   cases k1
   exact jT.fN e h2 k2
 |.arr _ e,_,_,_,p,_,_,_,_,h,k=>by
  match p with
  |[]=>exact⟨h.1.trans k.1.symm,h.2.trans k.2.symm⟩
  |.L::_=>exact h.elim
  |.R::_=>exact h.elim
  |.I _::_=>exact jT.fN e h k
 |.op t,_,_,_,p,_,_,_,_,h,k=>by
  match p with
  |[]=>exact⟨h.1.trans k.1.symm,h.2.trans k.2.symm⟩
  |.L::_=>exact h.elim
  |.R::_=>exact h.elim
  |.I _::_=>
   obtain⟨g,h1,h2⟩:=h
   obtain⟨g',k1,k2⟩:=k
   rw[h1]at k1
   cases k1
   exact jT.fN t h2 k2
 |.int _,_,_,_,_,_,_,_,_,h,k=>⟨h.2.1.trans k.2.1.symm,h.2.2.trans k.2.2.symm⟩
 |.bool,_,_,_,_,_,_,_,_,h,k=>⟨h.2.1.trans k.2.1.symm,h.2.2.trans k.2.2.symm⟩
 |.list false _ _,_,_,_,_,_,_,_,_,h,k=>⟨h.2.1.trans k.2.1.symm,h.2.2.trans k.2.2.symm⟩
 |.ptr _,_,_,_,_,_,_,_,_,h,k=>⟨h.2.1.trans k.2.1.symm,h.2.2.trans k.2.2.symm⟩
 |.fn _ _,_,_,_,_,_,_,_,_,h,k=>⟨h.2.1.trans k.2.1.symm,h.2.2.trans k.2.2.symm⟩
 |.bQ _ _ _,_,_,_,_,_,_,_,_,h,k=>⟨h.2.1.trans k.2.1.symm,h.2.2.trans k.2.2.symm⟩
 |.ext _ _ _ _,_,_,_,_,_,_,_,_,h,k=>⟨h.2.1.trans k.2.1.symm,h.2.2.trans k.2.2.symm⟩
theorem jT.append:(τ:Ty)->∀{w:World} {b o p b1 o1 σ q b2 o2},kq τ p=some σ->jT w τ b o p b1 o1->jT w σ b1 o1 q b2 o2->jT w τ b o (p++q) b2 o2
 |.pair x y,_,_,_,p,_,_,_,_,_,_,ht,h,k=>by
  match p with
  |[]=>cases ht;obtain⟨rfl,rfl⟩:=h;exact k
  |.L::_=>exact jT.append x ht h k
  |.R::_=>exact jT.append y ht h k
  |.I _::_=>exact h.elim
 |.str t,_,_,_,p,_,_,_,_,_,_,ht,h,k=>by
  match p with
  |[]=>cases ht;obtain⟨rfl,rfl⟩:=h;exact k
  |s::_=>exact jT.append t ht h k
 |.list true _ e,_,_,_,p,_,_,_,_,_,_,ht,h,k=>by
  match p with
  |[]=>cases ht;obtain⟨rfl,rfl⟩:=h;exact k
  |.L::_=>exact h.elim
  |.R::_=>exact h.elim
  |.I _::_=>
   obtain⟨g,n,cap,h1,h2⟩:=h
   exact⟨g,n,cap,h1,jT.append e ht h2 k⟩
 |.arr _ e,_,_,_,p,_,_,_,_,_,_,ht,h,k=>by
  match p with
  |[]=>cases ht;obtain⟨rfl,rfl⟩:=h;exact k
  |.L::_=>exact h.elim
  |.R::_=>exact h.elim
  |.I _::_=>exact jT.append e ht h k
 |.op t,_,_,_,p,_,_,_,_,_,_,ht,h,k=>by
  match p with
  |[]=>cases ht;obtain⟨rfl,rfl⟩:=h;exact k
  |.L::_=>exact h.elim
  |.R::_=>exact h.elim
  |.I _::_=>
   obtain⟨g,h1,h2⟩:=h
   exact⟨g,h1,jT.append t ht h2 k⟩
 |.int _,_,_,_,_,_,_,_,_,_,_,ht,h,k=>by obtain⟨rfl,rfl,rfl⟩:=h;cases ht;exact k
 |.bool,_,_,_,_,_,_,_,_,_,_,ht,h,k=>by obtain⟨rfl,rfl,rfl⟩:=h;cases ht;exact k
 |.list false _ _,_,_,_,_,_,_,_,_,_,_,ht,h,k=>by obtain⟨rfl,rfl,rfl⟩:=h;cases ht;exact k
 |.ptr _,_,_,_,_,_,_,_,_,_,_,ht,h,k=>by obtain⟨rfl,rfl,rfl⟩:=h;cases ht;exact k
 |.fn _ _,_,_,_,_,_,_,_,_,_,_,ht,h,k=>by obtain⟨rfl,rfl,rfl⟩:=h;cases ht;exact k
 |.bQ _ _ _,_,_,_,_,_,_,_,_,_,_,ht,h,k=>by obtain⟨rfl,rfl,rfl⟩:=h;cases ht;exact k
 |.ext _ _ _ _,_,_,_,_,_,_,_,_,_,_,ht,h,k=>by obtain⟨rfl,rfl,rfl⟩:=h;cases ht;exact k
theorem qd.cons{α:Type}{R:α->List Value->List Nat->Prop}{x:α}{l:List α}{c xs f fp}(h:R x c f)(k:qd R l xs fp):qd R (x::l) (c++xs) (f++fp):=
 ⟨c,xs,f,fp,rfl,rfl,h,k⟩
def Focus(P:Program)(τ:Ty)(x:τ.den)(p:List qu)(σ:Ty)(y:σ.den)(w:World)(H:FH)(fp:List Nat)
  (root:List Nat) (aaL:World->Prop) (BY:World->(τ.den)->List Nat->Prop) (b' o':Nat):Prop:=
 ∃aX t' pre' c post' f1 f f2,w.heap[b']? = some (.cells aX t' (0,0))/\aX.toList=pre'++c++post'/\pre'.length=o'/\fp=f1++f++f2/\
  (b'∈root\/b'∈f1)/\qm P σ w H y c f/\(∀w':World,(∀k∈root++f1,w'.heap[k]? = w.heap[k]?)->aaL w')/\
  ∀(w':World) (c':List Value) (f':List Nat) (σ':Ty) (y':σ'.den) (x':τ.den),qm P σ' w' H y' c' f'->j6 τ x p σ' y'=some x'->
   w'.heap[b']? = some (.cells (pre'++c'++post').toArray t' (0,0))->(∀k∈root++(f1++f2),k≠b'->w'.heap[k]? = w.heap[k]?)->BY w' x' (f1++f'++f2)
def qlv(P:Program)(τ:Ty)(x:τ.den)(p:List qu)(σ:Ty)(y:σ.den)(w:World)(H:FH)(fp:List Nat)(b:Nat)(t:TypeId)(pre post:List Value)(b' o':Nat):Prop:=
 Focus P τ x p σ y w H fp [b] (λw'=>jT w' τ b pre.length p b' o') (λw' x' aC=>∃cs',qm P τ w' H x' cs' aC/\w'.heap[b]? = some (.cells (pre++cs'++post).toArray t (0,0))) b' o'
theorem zk{P:Program}{τ:Ty}{x:τ.den}{w:World}{H:FH}{cs:List Value}{fp:List Nat}{b:Nat}{blk:Array Value}{t:TypeId}{pre post:List Value}
  (h:qm P τ w H x cs fp) (hb:w.heap[b]? = some (.cells blk t (0,0))) (hblk:blk.toList=pre++cs++post):
  qlv P τ x [] τ x w H fp b t pre post b pre.length:=by
 refine⟨blk,t,pre,cs,post,[],fp,[],hb,hblk,rfl,by simp,.inl (by simp),h,λ_ _=>kV _ _ _ _,?_⟩
 intro w' c' f' σ' y' x' hr hs hw _
 rw[qiD]at hs
 obtain⟨e,hx⟩:=qg hs
 subst e
 subst hx
 exact⟨c',by simpa using hr,hw⟩
def QC(P:Program)(τ:Ty):Prop:=∀{p:List qu} {x:τ.den} {σ:Ty} {y:σ.den} {w:World} {H:FH} {cs:List Value} {fp:List Nat} {b:Nat} {blk:Array Value} {t:TypeId} {pre post:List Value},
  qU τ x p=some ⟨σ,y⟩->qm P τ w H x cs fp->w.heap[b]? = some (.cells blk t (0,0))->blk.toList=pre++cs++post->(b::fp).Nodup->
  ∃b' o',qlv P τ x p σ y w H fp b t pre post b' o'
theorem Row.desc{P:Program}{tid:Nat}{e:Ty}(ih:QC P e){i:Int}{q:List qu}{x:List e.den}{σ:Ty}{y:σ.den}{w:World}{H:FH}{ax:Value}{fp:List Nat}
  (hg:qU (.list true tid e) x (.I i::q)=some ⟨σ,y⟩) (h:qm P (.list true tid e) w H x [ax] fp) (aq:fp.Nodup):
  ∃b' o' g n cap,ax = .slice (some ⟨g,0,none⟩) n cap/\
   Focus P (.list true tid e) x (.I i::q) σ y w H fp [] (λw'=>jT w' e g (i.toNat*e.size) q b' o') (λw' x' aC=>qm P (.list true tid e) w' H x' [ax] aC) b' o':=by
 simp only[qU]at hg
 split at hg
 case isFalse=>cases hg
 rename_i zA
 obtain⟨z,hz,hg⟩:=Option.bind_eq_some_iff.1 hg
 obtain⟨ry,xs,aC,he,rfl,ho,hch⟩:=h
 obtain rfl:ax=ry:=by simpa using he
 obtain⟨bD,c2,bS,g1,g,g2,rfl,rfl,ht1,h2,ht2⟩:=qd.at hch hz
 have hlen:i.toNat<List.length x:=(List.getElem?_eq_some_iff.1 hz).1
 rcases ho.2 with⟨rfl,h0⟩|⟨gb,cap,cur,rfl,II,gZ,hcap,wU,hsz,cC⟩
 ·omega
 have eR:bD.length=i.toNat*e.size:=by
  rw[qd.length (n:=e.size) (λ_ _ _ hh=>qm.length e hh) ht1,List.length_take,Nat.min_eq_left (Nat.le_of_lt hlen)]
 have fL:cur.toList=bD++c2++(bS++cur.toList.drop (List.length x*e.size)):=by
  have e9:=(List.take_append_drop (List.length x*e.size) cur.toList).symm
  rw[cC]at e9
  exact e9.trans (by simp only[List.append_assoc])
 have aO:(gb::(g1++g++g2)).Nodup:=by simpa[Value.ownBlock]using aq
 obtain⟨b',o',aX,t',pre',c,post',f1,f,f2,e1,e2,e3,e4,e5,e6,hl,e7⟩:=ih (p:=q) (pre:=bD) (post:=bS++cur.toList.drop (List.length x*e.size)) hg h2 gZ fL (by
  simp only[List.nodup_cons,List.nodup_append,List.mem_append]at aO ⊢
  exact⟨λhh=>aO.1 (.inl (.inr hh)),aO.2.1.2.1⟩)
 rw[eR]at hl
 refine⟨b',o',gb,List.length x,cap,rfl,aX,t',pre',c,post',gb::(g1++f1),f,f2++g2,e1,e2,e3,by rw[e4];simp[Value.ownBlock],?_,e6,λw' ha=>hl w' (λk hk=>ha k (by simp at hk ⊢;rcases hk with h|h<;>simp[h])),?_⟩
 ·rcases e5 with h|h
  ·simp only[List.mem_singleton]at h;exact .inr (by simp[h])
  ·exact .inr (by simp[h])
 intro w' c' f' σ' y' x' hr hs hw hk
 simp only[j6,if_pos zA]at hs
 obtain⟨z',mv,hs⟩:=Option.bind_eq_some_iff.1 hs
 rw[hz]at mv
 cases mv
 obtain⟨z2,KD,rfl⟩:=Option.map_eq_some_iff.1 hs
 obtain⟨cs',hr',iX⟩:=e7 w' c' f' σ' y' z2 hr KD hw (λk hk'=>hk k (by simp at hk' ⊢;rcases hk' with h|h|h<;>simp[h]))
 have dH:cs'.length=c2.length:=(qm.length e hr').trans (qm.length e h2).symm
 have mA:List.length (List.set x i.toNat z2)=List.length x:=List.length_set
 refine⟨.slice (some ⟨gb,0,none⟩) (List.length x) cap,bD++cs'++bS,g1++(f1++f'++f2)++g2,rfl,by simp[Value.ownBlock],⟨?_,.inr ⟨gb,cap,_,by rw[mA],Nat.zero_le _,iX,?_,wU,?_,?_⟩⟩,?_⟩
 ·have:=ho.1
  rw[mA]
  simp only[List.length_append]at this ⊢
  omega
 ·rw[mA];exact hcap
 ·have q0:=congrArg List.length fL
  rw[Array.length_toList]at q0
  rw[<-hsz,q0,List.size_toArray]
  simp only[List.length_append,dH]
 ·have e8:(bD++cs'++bS).length=List.length x*e.size:=by
   have:=ho.1
   simp only[List.length_append]at this ⊢
   omega
  rw[mA]
  show List.take _ (bD++cs'++(bS++_))=_
  rw[<-List.append_assoc (bD++cs'),<-e8]
  exact List.take_left
 ·have iY:x.set i.toNat z2=x.take i.toNat++z2::x.drop (i.toNat+1):=List.set_eq_take_append_cons_drop.trans (if_pos hlen)
  rw[iY]
  have hm:∀k∈g1++g2,w'.heap[k]? = w.heap[k]?:=by
   intro k hk'
   refine hk k (by simp at hk' ⊢;rcases hk' with h|h<;>simp[h]) ?_
   rintro rfl
   rcases e5 with h|h
   ·simp only[List.mem_singleton]at h
    subst h
    simp only[List.nodup_cons,List.mem_append]at aO hk'
    exact aO.1 (hk'.elim (λh=>.inl (.inl h)) .inr)
   ·rw[e4]at aO
    simp only[List.nodup_cons,List.nodup_append,List.mem_append]at aO hk'
    rcases hk' with hk'|hk'
    ·exact aO.2.1.2.2 k hk' k (.inl (.inl h)) rfl
    ·exact aO.2.2.2 k (.inr (.inl (.inl h))) k hk' rfl
  have q1:qd (qm P e w' H) (x.take i.toNat) bD g1:=qd.dB (Q:=λk=>w'.heap[k]? = w.heap[k]?) (λ_ _ _ hf hh=>qm.mono e (FH.le_refl _) hf hh) (λk hk'=>hm k (by simp[hk'])) ht1
  have q2:qd (qm P e w' H) (x.drop (i.toNat+1)) bS g2:=qd.dB (Q:=λk=>w'.heap[k]? = w.heap[k]?) (λ_ _ _ hf hh=>qm.mono e (FH.le_refl _) hf hh) (λk hk'=>hm k (by simp[hk'])) ht2
  have:=qd.append q1 (qd.cons hr' q2)
  simpa using this
theorem qm.desc{P:Program}:(τ:Ty)->∀{p:List qu} {x:τ.den} {σ:Ty} {y:σ.den} {w:World} {H:FH} {cs:List Value} {fp:List Nat} {b:Nat} {blk:Array Value} {t:TypeId} {pre post:List Value},
  qU τ x p=some ⟨σ,y⟩->qm P τ w H x cs fp->w.heap[b]? = some (.cells blk t (0,0))->blk.toList=pre++cs++post->(b::fp).Nodup->
  ∃b' o',qlv P τ x p σ y w H fp b t pre post b' o'
 |.pair u v,p,x,σ,y,w,H,cs,fp,b,blk,t,pre,post,hg,h,hb,hblk,aq=>by
  match p with
  |[]=>cases hg;exact⟨b,pre.length,zk h hb hblk⟩
  |.I _::_=>cases hg
  |.L::q=>
   obtain⟨c1,c2,g1,g2,rfl,rfl,h1,h2⟩:=h
   obtain⟨b',o',aX,t',pre',c,post',f1,f,f2,e1,e2,e3,e4,e5,e6,hl,e7⟩:=qm.desc u (p:=q) (pre:=pre) (post:=c2++post) hg h1 hb (by rw[hblk];simp) (by
    rw[<-List.cons_append]at aq;exact(List.nodup_append.1 aq).1)
   refine⟨b',o',aX,t',pre',c,post',f1,f,f2++g2,e1,e2,e3,by rw[e4];simp,e5,e6,hl,?_⟩
   intro w' c' f' σ' y' x' hr hs hw hk
   obtain⟨z,hz,rfl⟩:=Option.map_eq_some_iff.1 hs
   obtain⟨cs',hr',iX⟩:=e7 w' c' f' σ' y' z hr hz hw (λk hk'=>hk k (by simp at hk' ⊢;rcases hk' with h|h|h<;>simp[h]))
   refine⟨cs'++c2,⟨cs',c2,f1++f'++f2,g2,rfl,by simp,hr',?_⟩,by rw[iX];simp⟩
   refine qm.mono v (FH.le_refl _) (λk hk'=>hk k (by simp[hk']) ?_) h2
   rintro rfl
   rw[e4]at aq
   rcases e5 with h|h
   ·simp only[List.mem_singleton]at h
    subst h
    simp only[List.nodup_cons,List.mem_append]at aq
    exact aq.1 (.inr hk')
   ·simp only[List.nodup_cons,List.nodup_append,List.mem_append]at aq
    exact aq.2.2.2 k (.inl (.inl h)) k hk' rfl
  |.R::q=>
   obtain⟨c1,c2,g1,g2,rfl,rfl,h1,h2⟩:=h
   obtain⟨b',o',aX,t',pre',c,post',f1,f,f2,e1,e2,e3,e4,e5,e6,hl,e7⟩:=qm.desc v (p:=q) (pre:=pre++c1) (post:=post) hg h2 hb (by rw[hblk];simp) (by
    simp only[List.nodup_cons,List.nodup_append,List.mem_append]at aq ⊢
    exact⟨λhh=>aq.1 (.inr hh),aq.2.2.1⟩)
   refine⟨b',o',aX,t',pre',c,post',g1++f1,f,f2,e1,e2,e3,by rw[e4];simp,e5.imp id (λh=>by simp[h]),e6,λw' ha=>?_,?_⟩
   ·show jT w' v b (pre.length+u.size) q b' o'
    rw[<-qm.length u h1,<-List.length_append]
    exact hl w' (λk hk=>ha k (by simp at hk ⊢;rcases hk with h|h<;>simp[h]))
   intro w' c' f' σ' y' x' hr hs hw hk
   obtain⟨z,hz,rfl⟩:=Option.map_eq_some_iff.1 hs
   obtain⟨cs',hr',iX⟩:=e7 w' c' f' σ' y' z hr hz hw (λk hk'=>hk k (by simp at hk' ⊢;rcases hk' with h|h|h<;>simp[h]))
   refine⟨c1++cs',⟨c1,cs',g1,f1++f'++f2,rfl,by simp,?_,hr'⟩,by rw[iX];simp⟩
   refine qm.mono u (FH.le_refl _) (λk hk'=>hk k (by simp[hk']) ?_) h1
   rintro rfl
   rw[e4]at aq
   rcases e5 with h|h
   ·simp only[List.mem_singleton]at h
    subst h
    simp only[List.nodup_cons,List.mem_append]at aq
    exact aq.1 (.inl hk')
   ·simp only[List.nodup_cons,List.nodup_append,List.mem_append]at aq
    exact aq.2.2.2 k hk' k (.inl (.inl h)) rfl
 |.str s,p,x,σ,y,w,H,cs,fp,b,blk,t,pre,post,hg,h,hb,hblk,aq=>by
  match p with
  |[]=>cases hg;exact⟨b,pre.length,zk h hb hblk⟩
  |a::q=>exact qm.desc s (p:=a::q) hg h hb hblk aq
 |.list true tid e,p,x,σ,y,w,H,cs,fp,b,blk,t,pre,post,hg,h,hb,hblk,aq=>by
  match p with
  |[]=>cases hg;exact⟨b,pre.length,zk h hb hblk⟩
  |.L::_=>cases hg
  |.R::_=>cases hg
  |.I i::q=>
   obtain⟨ax,xs,aC,rfl,rfl,ho,hch⟩:=h
   obtain⟨b',o',g,n,cap,hh,aX,t',pre',c,post',f1,f,f2,e1,e2,e3,e4,e5,e6,hl,e7⟩:=Row.desc (P:=P) (tid:=tid) (λa b c d e'=>qm.desc e a b c d e') (w:=w) (H:=H) hg ⟨ax,xs,aC,rfl,rfl,ho,hch⟩ (List.nodup_cons.1 aq).2
   have hnb:=(List.nodup_cons.1 aq).1
   have hb':b'∈f1:=by simpa using e5
   have Sl:b≠b':=by
    rintro rfl
    exact hnb (by rw[e4];simp[hb'])
   refine⟨b',o',aX,t',pre',c,post',f1,f,f2,e1,e2,e3,e4,.inr hb',e6,λw' ha=>⟨g,n,cap,?_,hl w' (λk hk=>ha k (by simp at hk ⊢;simp[hk]))⟩,?_⟩
   ·rw[qw ((ha b (by simp)).trans hb),<-Array.getElem?_toList,hblk,hh];simp
   intro w' c' f' σ' y' x' hr hs hw hk
   refine⟨[ax],e7 w' c' f' σ' y' x' hr hs hw (λk hk'=>hk k (by simp at hk' ⊢;rcases hk' with h|h<;>simp[h])),?_⟩
   rw[hk b (by simp) Sl,hb,<-hblk]
 |.arr n e,p,x,σ,y,w,H,cs,fp,b,blk,t,pre,post,hg,h,hb,hblk,aq=>by
  match p with
  |[]=>cases hg;exact⟨b,pre.length,zk h hb hblk⟩
  |.L::_=>cases hg
  |.R::_=>cases hg
  |.I i::q=>
   simp only[qU]at hg
   split at hg
   case isFalse=>cases hg
   rename_i zA
   obtain⟨z,hz,hg⟩:=Option.bind_eq_some_iff.1 hg
   obtain⟨Gy,hch⟩:=h
   obtain⟨bD,c2,bS,g1,g,g2,rfl,rfl,ht1,h2,ht2⟩:=qd.at hch hz
   have hlen:i.toNat<List.length x:=(List.getElem?_eq_some_iff.1 hz).1
   have eR:bD.length=i.toNat*e.size:=by
    rw[qd.length (n:=e.size) (λ_ _ _ hh=>qm.length e hh) ht1,List.length_take,Nat.min_eq_left (Nat.le_of_lt hlen)]
   obtain⟨b',o',aX,t',pre',c,post',f1,f,f2,e1,e2,e3,e4,e5,e6,hl,e7⟩:=qm.desc e (p:=q) (pre:=pre++bD) (post:=bS++post) hg h2 hb (by rw[hblk];simp) (by
    simp only[List.nodup_cons,List.nodup_append,List.mem_append]at aq ⊢
    exact⟨λhh=>aq.1 (.inl (.inr hh)),aq.2.1.2.1⟩)
   rw[List.length_append,eR]at hl
   refine⟨b',o',aX,t',pre',c,post',g1++f1,f,f2++g2,e1,e2,e3,by rw[e4];simp,e5.imp id (λh=>by simp[h]),e6,λw' ha=>hl w' (λk hk=>ha k (by simp at hk ⊢;rcases hk with h|h<;>simp[h])),?_⟩
   intro w' c' f' σ' y' x' hr hs hw hk
   simp only[j6,if_pos zA]at hs
   obtain⟨z',mv,hs⟩:=Option.bind_eq_some_iff.1 hs
   rw[hz]at mv
   cases mv
   obtain⟨z2,KD,rfl⟩:=Option.map_eq_some_iff.1 hs
   obtain⟨cs',hr',iX⟩:=e7 w' c' f' σ' y' z2 hr KD hw (λk hk'=>hk k (by simp at hk' ⊢;rcases hk' with h|h|h<;>simp[h]))
   refine⟨bD++cs'++bS,⟨by rw[List.length_set];exact Gy,?_⟩,by rw[iX];simp⟩
   have iY:x.set i.toNat z2=x.take i.toNat++z2::x.drop (i.toNat+1):=List.set_eq_take_append_cons_drop.trans (if_pos hlen)
   rw[iY]
   have hm:∀k∈g1++g2,w'.heap[k]? = w.heap[k]?:=by
    intro k hk'
    refine hk k (by simp at hk' ⊢;rcases hk' with h|h<;>simp[h]) ?_
    rintro rfl
    rcases e5 with h|h
    ·simp only[List.mem_singleton]at h
     subst h
     simp only[List.nodup_cons,List.mem_append]at aq hk'
     exact aq.1 (hk'.elim (λh=>.inl (.inl h)) .inr)
    ·rw[e4]at aq
     simp only[List.nodup_cons,List.nodup_append,List.mem_append]at aq hk'
     rcases hk' with hk'|hk'
     ·exact aq.2.1.2.2 k hk' k (.inl (.inl h)) rfl
     ·exact aq.2.2.2 k (.inr (.inl (.inl h))) k hk' rfl
   have q1:qd (qm P e w' H) (x.take i.toNat) bD g1:=qd.dB (Q:=λk=>w'.heap[k]? = w.heap[k]?) (λ_ _ _ hf hh=>qm.mono e (FH.le_refl _) hf hh) (λk hk'=>hm k (by simp[hk'])) ht1
   have q2:qd (qm P e w' H) (x.drop (i.toNat+1)) bS g2:=qd.dB (Q:=λk=>w'.heap[k]? = w.heap[k]?) (λ_ _ _ hf hh=>qm.mono e (FH.le_refl _) hf hh) (λk hk'=>hm k (by simp[hk'])) ht2
   have:=qd.append q1 (qd.cons hr' q2)
   simpa using this
 |.op s,p,x,σ,y,w,H,cs,fp,b,blk,t,pre,post,hg,h,hb,hblk,aq=>by
  match p with
  |[]=>cases hg;exact⟨b,pre.length,zk h hb hblk⟩
  |.L::_=>cases hg
  |.R::_=>cases hg
  |.I i::q=>
   simp only[qU]at hg
   obtain⟨z,rfl,hg⟩:=Option.bind_eq_some_iff.1 hg
   obtain⟨g,CU,gt,aC,rfl,rfl,gZ,ye⟩:=h
   have hnb:=(List.nodup_cons.1 aq).1
   obtain⟨b',o',aX,t',pre',c,post',f1,f,f2,e1,e2,e3,e4,e5,e6,hl,e7⟩:=qm.desc s (p:=q) (pre:=[]) (post:=[]) hg ye gZ (by simp) (List.nodup_cons.1 aq).2
   have hb':b'∈g::f1:=by
    rcases e5 with h|h
    ·simp only[List.mem_singleton]at h;simp[h]
    ·simp[h]
   have Sl:b≠b':=by
    rintro rfl
    refine hnb ?_
    rw[e4]
    rcases List.mem_cons.1 hb' with h|h
    ·simp[h]
    ·simp[h]
   refine⟨b',o',aX,t',pre',c,post',g::f1,f,f2,e1,e2,e3,by rw[e4];simp,.inr hb',e6,λw' ha=>⟨g,?_,hl w' (λk hk=>ha k (by simp at hk ⊢;rcases hk with h|h<;>simp[h]))⟩,?_⟩
   ·rw[qw ((ha b (by simp)).trans hb),<-Array.getElem?_toList,hblk];simp
   intro w' c' f' σ' y' x' hr hs hw hk
   simp only[j6,Option.bind_some]at hs
   obtain⟨z2,KD,rfl⟩:=Option.map_eq_some_iff.1 hs
   obtain⟨cs',hr',iX⟩:=e7 w' c' f' σ' y' z2 hr KD hw (λk hk'=>hk k (by simp at hk' ⊢;rcases hk' with h|h|h<;>simp[h]))
   refine⟨[.pointer (some ⟨g,0,none⟩)],⟨g,_,gt,f1++f'++f2,rfl,by simp,iX,by simpa using hr'⟩,?_⟩
   rw[hk b (by simp) Sl,hb,<-hblk]
 |.int _,p,_,_,_,_,_,_,_,b,_,_,pre,_,hg,h,hb,hblk,_=>by cases p<;>cases hg;exact⟨b,pre.length,zk h hb hblk⟩
 |.bool,p,_,_,_,_,_,_,_,b,_,_,pre,_,hg,h,hb,hblk,_=>by cases p<;>cases hg;exact⟨b,pre.length,zk h hb hblk⟩
 |.list false _ _,p,_,_,_,_,_,_,_,b,_,_,pre,_,hg,h,hb,hblk,_=>by cases p<;>cases hg;exact⟨b,pre.length,zk h hb hblk⟩
 |.ptr _,p,_,_,_,_,_,_,_,b,_,_,pre,_,hg,h,hb,hblk,_=>by cases p<;>cases hg;exact⟨b,pre.length,zk h hb hblk⟩
 |.fn _ _,p,_,_,_,_,_,_,_,b,_,_,pre,_,hg,h,hb,hblk,_=>by cases p<;>cases hg;exact⟨b,pre.length,zk h hb hblk⟩
 |.bQ _ _ _,p,_,_,_,_,_,_,_,b,_,_,pre,_,hg,h,hb,hblk,_=>by cases p<;>cases hg;exact⟨b,pre.length,zk h hb hblk⟩
 |.ext _ _ _ _,p,_,_,_,_,_,_,_,b,_,_,pre,_,hg,h,hb,hblk,_=>by cases p<;>cases hg;exact⟨b,pre.length,zk h hb hblk⟩
theorem qd.each{α:Type}{Q:α->List Value->List Nat->Prop}{F:Nat->Prop}(h:∀x c f,Q x c f->∀b∈f,F b):∀{l:List α} {xs fp},qd Q l xs fp->∀b∈fp,F b
 |[],_,_,⟨_,e⟩,b,hb=>by rw[e]at hb;cases hb
 |_::_,_,_,⟨c,xs',f,aC,e1,e2,h1,h2⟩,b,hb=>by
  rw[e2]at hb
  rcases List.mem_append.1 hb with hb|hb
  ·exact h _ _ _ h1 b hb
  ·exact qd.each h h2 b hb
theorem qm.cells{P:Program}:(τ:Ty)->τ.aD=true->∀{w:World} {H:FH} {x cs fp},qm P τ w H x cs fp->∀b∈fp,∃c t f,w.heap[b]? = some (.cells c t f)
 |.int _,_,_,_,_,_,_,h=>by rw[h.2];simp
 |.bool,_,_,_,_,_,_,h=>by rw[h.2];simp
 |.list false _ _,_,_,_,_,_,_,h=>by rw[h.1];simp
 |.list true _ e,hn,_,_,_,_,_,h=>by
  obtain⟨ax,xs,aC,rfl,rfl,ho,hch⟩:=h
  intro b hb
  rcases List.mem_append.1 hb with hb|hb
  ·rcases ho.2 with⟨rfl,_⟩|⟨g,cap,cur,rfl,_,hg,_⟩
   ·simp[Value.ownBlock]at hb
   ·simp[Value.ownBlock]at hb
    subst hb
    exact⟨_,_,_,hg⟩
  ·exact qd.each (λ_ _ _ hh=>qm.cells e (by simpa[Ty.aD]using hn) hh) hch b hb
 |.pair a c,hn,_,_,_,_,_,h=>by
  simp only[Ty.aD,Bool.and_eq_true]at hn
  obtain⟨c1,c2,f1,f2,_,rfl,h1,h2⟩:=h
  intro b hb
  rcases List.mem_append.1 hb with hb|hb
  ·exact qm.cells a hn.1 h1 b hb
  ·exact qm.cells c hn.2 h2 b hb
 |.str t,hn,_,_,_,_,_,h=>qm.cells t (by simpa[Ty.aD]using hn) h
 |.ptr _,_,_,_,_,_,_,h=>by rw[h.1];simp
 |.op t,hn,_,_,x,_,_,h=>by
  cases x with
  |none=>rw[h.2];simp
  |some y=>
   obtain⟨g,blk,tt,aC,rfl,rfl,hg,hr⟩:=h
   intro b hb
   rcases List.mem_cons.1 hb with rfl|hb
   ·exact⟨_,_,_,hg⟩
   ·exact qm.cells t (by simpa[Ty.aD]using hn) hr b hb
 |.arr _ e,hn,_,_,_,_,_,h=>qd.each (λ_ _ _ hh=>qm.cells e (by simpa[Ty.aD]using hn) hh) h.2
 |.fn _ _,hn,_,_,_,_,_,_=>by simp[Ty.aD]at hn
 |.bQ _ _ _,hn,_,_,_,_,_,_=>by simp[Ty.aD]at hn
 |.ext _ _ _ _,hn,_,_,_,_,_,_=>by simp[Ty.aD]at hn
def mq:Go.Obj->Bool
 |.cells _ _ _=>true
 |.map _ _=>true
 |.mapIter _ _ _ _=>true
 |_=>false
def AQ(w:World)(b:Nat):Prop:=∃o,w.heap[b]? = some o/\mq o=true
theorem AQ.sS{w:World}{b:Nat}(h:∃c t f,w.heap[b]? = some (.cells c t f)):AQ w b:=by obtain⟨c,t,f,h⟩:=h;exact⟨_,h,rfl⟩
theorem qY.dat{P:Program}{own:Bool}{i j:Nat}{w:World}{H:FH}:{n:Nat}->{x:qc6 n}->{cs:List Value}->{fp:List Nat}->qY P own i j w H n x cs fp->∀b∈fp,AQ w b
 |0,x,cs,fp,h=>by
  cases own with
  |false=>rw[qY.dg (n:=0) h];simp
  |true=>
   cases x with
   |none=>rw[h.2];simp
   |some kv=>
    obtain⟨b,_,e,h2⟩:=h
    obtain⟨es,n,h3,_⟩:=h2.fz
    rw[e]
    intro k hk
    rw[List.mem_singleton.1 hk]
    exact⟨_,h3,rfl⟩
 |1,x,cs,fp,h=>by
  cases own with
  |false=>rw[h.1];simp
  |true=>
   cases x with
   |none=>rw[h.2];simp
   |some kv=>
    obtain⟨b,_,e,h2⟩:=h
    obtain⟨es,n,h3,_⟩:=h2.fz
    rw[e]
    intro k hk
    rw[List.mem_singleton.1 hk]
    exact⟨_,h3,rfl⟩
 |2,x,cs,fp,h=>by rw[h.2];simp
 |3,x,cs,fp,h=>by
  cases own with
  |false=>rw[h.1];simp
  |true=>
   obtain⟨r,_,e,b,es,n,since,seen,c0,D,left,kv,_,_,_,_,q5,_⟩:=h
   rw[e]
   intro k hk
   rw[List.mem_singleton.1 hk]
   exact⟨_,q5,rfl⟩
 |4,x,cs,fp,h=>by
  cases own with
  |false=>rw[h.1];simp
  |true=>
   cases x with
   |none=>rw[h.2];simp
   |some l=>
    obtain⟨b,tt,ax,_,e,h3,h4⟩:=h
    rw[e]
    intro k hk
    rcases List.mem_cons.1 hk with rfl|hk
    ·exact⟨_,h3,rfl⟩
    ·rcases h4.2 with⟨rfl,_⟩|⟨g,cap,cur,rfl,_,hg,_⟩
     ·simp[Value.ownBlock]at hk
     ·simp[Value.ownBlock]at hk
      subst hk
      exact⟨_,hg,rfl⟩
 |n+5,x,cs,fp,h=>by
  cases own with
  |false=>rw[h.1];simp
  |true=>
   cases x with
   |none=>rw[h.1];simp
   |some l=>
    obtain⟨ax,xs,_,e,h4⟩:=h
    rw[e]
    intro k hk
    rcases h4.2 with⟨rfl,_⟩|⟨g,cap,cur,rfl,_,hg,_⟩
    ·simp[Value.ownBlock]at hk
    ·simp[Value.ownBlock]at hk
     subst hk
     exact⟨_,hg,rfl⟩
theorem qm.dat{P:Program}:(τ:Ty)->∀{w:World} {H:FH} {x cs fp},qm P τ w H x cs fp->∀b∈fp,AQ w b
 |.int _,_,_,_,_,_,h=>by rw[h.2];simp
 |.bool,_,_,_,_,_,h=>by rw[h.2];simp
 |.list false _ _,_,_,_,_,_,h=>by rw[h.1];simp
 |.list true _ e,_,_,_,_,_,h=>by
  obtain⟨ax,xs,aC,rfl,rfl,ho,hch⟩:=h
  intro b hb
  rcases List.mem_append.1 hb with hb|hb
  ·rcases ho.2 with⟨rfl,_⟩|⟨g,cap,cur,rfl,_,hg,_⟩
   ·simp[Value.ownBlock]at hb
   ·simp[Value.ownBlock]at hb
    subst hb
    exact⟨_,hg,rfl⟩
  ·exact qd.each (λ_ _ _ hh=>qm.dat e hh) hch b hb
 |.pair a c,_,_,_,_,_,h=>by
  obtain⟨c1,c2,f1,f2,_,rfl,h1,h2⟩:=h
  intro b hb
  rcases List.mem_append.1 hb with hb|hb
  ·exact qm.dat a h1 b hb
  ·exact qm.dat c h2 b hb
 |.str t,_,_,_,_,_,h=>qm.dat t h
 |.ptr _,_,_,_,_,_,h=>by rw[h.1];simp
 |.op t,_,_,x,_,_,h=>by
  cases x with
  |none=>rw[h.2];simp
  |some y=>
   obtain⟨g,blk,tt,aC,rfl,rfl,hg,hr⟩:=h
   intro b hb
   rcases List.mem_cons.1 hb with rfl|hb
   ·exact⟨_,hg,rfl⟩
   ·exact qm.dat t hr b hb
 |.arr _ e,_,_,_,_,_,h=>qd.each (λ_ _ _ hh=>qm.dat e hh) h.2
 |.fn _ _,_,_,_,_,_,h=>by rw[h.1];simp
 |.bQ _ _ _,_,_,_,_,_,h=>by rw[h.1];simp
 |.ext _ _ _ _,_,_,_,_,_,h=>qY.dat h
theorem AQ.lt{w:World}{b:Nat}(h:AQ w b):b<w.heap.size:=by obtain⟨o,h,_⟩:=h;exact(Array.getElem?_eq_some_iff.1 h).1
theorem AQ.block{w w':World}{b:Nat}(h:AQ w b)(e:w'.heap[b]? = w.heap[b]?):AQ w' b:=by obtain⟨o,h,h1⟩:=h;exact⟨o,e.trans h,h1⟩
end Go.Vi
namespace Go.Vi
structure qH where
 b:Nat
 ax:Value
 fp:List Nat
structure cM where
 w0:World
 M0:Nat->Prop
 H0:FH
 nt:Nat
 gQ:Nat->Option qH
 ds:List Deferred
 gh:Nat->Option Value:=λ_=>none
def jV(w:World)(o:Obj)(φ:qH)(p:List qu)(b off:Nat):Prop:=
 match o.row with
 |false=>jT w o.τ φ.b 0 p b off
 |true=>match o.τ,p with
  |.list true _ e,.I i::q=>∃g n cap,φ.ax = .slice (some ⟨g,0,none⟩) n cap/\jT w e g (i.toNat*e.size) q b off
  |_,_=>False
def qR(P:Program)(w:World)(H:FH)(o:Obj)(φ:qH):Prop:=
 o.τ.eM=true/\φ.fp.Nodup/\match o.row with
 |false=>∃blk t aC,w.heap[φ.b]? = some (.cells blk t (0,0))/\qm P o.τ w H o.x blk.toList aC/\φ.fp=φ.b::aC
 |true=>TB o.τ=true/\∃cs,φ.ax=j7 o.τ cs/\qm P o.τ w H o.x cs φ.fp
theorem qR.frame{P:Program}{w w':World}{H H':FH}{o:Obj}{φ:qH}(h:qR P w H o φ)(hH:H.le H')(hw:∀b∈φ.fp,w'.heap[b]? = w.heap[b]?):qR P w' H' o φ:=by
 obtain⟨h1,h2,h3⟩:=h
 refine⟨h1,h2,?_⟩
 cases hr:o.row with
 |false=>
  rw[hr]at h3
  obtain⟨blk,t,aC,h4,h5,h6⟩:=h3
  exact⟨blk,t,aC,by rw[hw _ (by rw[h6];simp)];exact h4,qm.mono _ hH (λb hb=>hw b (by rw[h6];simp[hb])) h5,h6⟩
 |true=>
  rw[hr]at h3
  obtain⟨h3,cs,h4,h5⟩:=h3
  exact⟨h3,cs,h4,qm.mono _ hH hw h5⟩
theorem qR.dz{P:Program}{w:World}{H:FH}{tid:Nat}{e:Ty}{x:List e.den}{φ:qH}(h:qR P w H ⟨true,.list true tid e,x⟩ φ):qm P (.list true tid e) w H x [φ.ax] φ.fp:=by
 obtain⟨_,_,_,cs,h4,h5⟩:=h
 obtain⟨ax,xs,aC,e1,e2,e3⟩:=h5
 subst e1
 have h4:φ.ax=ax:=h4
 rw[h4]
 exact⟨ax,xs,aC,rfl,e2,e3⟩
theorem qR.eX{P:Program}{w:World}{H:FH}{tid:Nat}{e:Ty}{x:List e.den}{φ:qH}(hn:(Ty.list true tid e).aD=true)(aq:φ.fp.Nodup)(h:qm P (.list true tid e) w H x [φ.ax] φ.fp):qR P w H ⟨true,.list true tid e,x⟩ φ:=
 ⟨hn,aq,rfl,[φ.ax],rfl,h⟩
theorem qR.h_{P:Program}{w:World}{H:FH}{o:Obj}{φ:qH}(h:qR P w H o φ){p:List qu}{σ:Ty}{y:σ.den}(hg:qU o.τ o.x p=some ⟨σ,y⟩)
  (bP:∃w0 b off,jV w0 o φ p b off) (hp:(o.row&&p.isEmpty)=false):
  ∃b' o' aX t' pre' c post' f1 f f2,w.heap[b']? = some (.cells aX t' (0,0))/\aX.toList=pre'++c++post'/\pre'.length=o'/\φ.fp=f1++f++f2/\
    b'∈f1/\qm P σ w H y c f/\(∀w':World,(∀k∈f1,w'.heap[k]? = w.heap[k]?)->jV w' o φ p b' o')/\
    ∀(w':World) (c':List Value) (f':List Nat) (σ':Ty) (y':σ'.den) (x':o.τ.den),qm P σ' w' H y' c' f'->j6 o.τ o.x p σ' y'=some x'->
     w'.heap[b']? = some (.cells (pre'++c'++post').toArray t' (0,0))->(∀k∈f1++f2,k≠b'->w'.heap[k]? = w.heap[k]?)->(f1++f'++f2).Nodup->
     qR P w' H ⟨o.row,o.τ,x'⟩ ⟨φ.b,φ.ax,f1++f'++f2⟩:=by
 obtain⟨h1,h2,h3⟩:=h
 obtain⟨row,τ,x⟩:=o
 cases row with
 |false=>
  obtain⟨blk,t,aC,h4,h5,h6⟩:=h3
  obtain⟨b',o',aX,t',pre',c,post',f1,f,f2,e1,e2,e3,e4,e5,e6,hl,e7⟩:=qm.desc τ (pre:=[]) (post:=[]) hg h5 h4 (by simp) (by rw[<-h6];exact h2)
  refine⟨b',o',aX,t',pre',c,post',φ.b::f1,f,f2,e1,e2,e3,by rw[h6,e4];simp,?_,e6,λw' ha=>hl w' (λk hk=>ha k (by simpa using hk)),?_⟩
  ·rcases e5 with h|h
   ·simp at h;simp[h]
   ·simp[h]
  ·intro w' c' f' σ' y' x' hr hs hw hk aq
   obtain⟨cs',hr',iX⟩:=e7 w' c' f' σ' y' x' hr hs hw (λk hk'=>hk k (by simpa using hk'))
   exact⟨h1,aq,_,t,f1++f'++f2,iX,by simpa using hr',by simp⟩
 |true=>
  obtain⟨w0,b0,acm,bP⟩:=bP
  unfold jV at bP
  simp only at bP
  split at bP
  case h_2=>exact bP.elim
  rename_i tid e i q
  ·have h4:qm P (.list true tid e) w H x [φ.ax] φ.fp:=qR.dz ⟨h1,h2,h3⟩
   obtain⟨b',o',g,n,cap,hh,aX,t',pre',c,post',f1,f,f2,e1,e2,e3,e4,e5,e6,hl,e7⟩:=Row.desc (P:=P) (tid:=tid) (λa b c d e'=>qm.desc e a b c d e') (w:=w) (H:=H) hg h4 h2
   refine⟨b',o',aX,t',pre',c,post',f1,f,f2,e1,e2,e3,e4,by simpa using e5,e6,λw' ha=>⟨g,n,cap,hh,hl w' (λk hk=>ha k (by simpa using hk))⟩,?_⟩
   intro w' c' f' σ' y' x' hr hs hw hk aq
   exact qR.eX h1 aq (e7 w' c' f' σ' y' x' hr hs hw (λk hk'=>hk k (by simpa using hk')))
theorem qR.desc{P:Program}{w:World}{H:FH}{o:Obj}{φ:qH}(h:qR P w H o φ){p:List qu}{σ:Ty}{y:σ.den}(hg:qU o.τ o.x p=some ⟨σ,y⟩)
  (bP:∃w0 b off,jV w0 o φ p b off) (hp:(o.row&&p.isEmpty)=false):
  ∃b' o',(∀w':World,(∀k∈φ.fp,w'.heap[k]? = w.heap[k]?)->jV w' o φ p b' o')/\
   ∃aX t' pre' c post' f1 f f2,w.heap[b']? = some (.cells aX t' (0,0))/\aX.toList=pre'++c++post'/\pre'.length=o'/\φ.fp=f1++f++f2/\
    b'∈f1/\qm P σ w H y c f/\
    ∀(w':World) (c':List Value) (f':List Nat) (σ':Ty) (y':σ'.den) (x':o.τ.den),qm P σ' w' H y' c' f'->j6 o.τ o.x p σ' y'=some x'->
     w'.heap[b']? = some (.cells (pre'++c'++post').toArray t' (0,0))->(∀k∈f1++f2,k≠b'->w'.heap[k]? = w.heap[k]?)->(f1++f'++f2).Nodup->
     qR P w' H ⟨o.row,o.τ,x'⟩ ⟨φ.b,φ.ax,f1++f'++f2⟩:=by
 obtain⟨b',o',aX,t',pre',c,post',f1,f,f2,e1,e2,e3,e4,e5,e6,hl,e7⟩:=h.h_ hg bP hp
 exact⟨b',o',λw' ha=>hl w' (λk hk=>ha k (by rw[e4];simp[hk])),aX,t',pre',c,post',f1,f,f2,e1,e2,e3,e4,e5,e6,e7⟩
def ia(P:Program)(w:World)(H:FH)(o:Obj)(φ:qH)(p:List qu)(b:Nat):Prop:=
 match o.row&&p.isEmpty with
 |true=>b∈φ.fp
 |false=>∃y bb off blk t f,qU o.τ o.x p=some y/\jV w o φ p bb off/\w.heap[bb]? = some (.cells blk t (0,0))/\qm P y.1 w H y.2 (ct blk off y.1.size) f/\b∈f
structure ei (C:cM) (w:World) (H:FH) (Φ:Nat->qH) (os:Nat->Option Obj) (b:Nat):Prop where
 fz:H b=none
 obj:∀id o,os id=some o->b∉(Φ id).fp
 may:C.M0 b\/C.w0.heap.size<=b
 lt:b<w.heap.size
def DM(w:World)(Φ:Nat->qH)(os:Nat->Option Obj)(id:Nat)(p:List qu)(v:Value):Prop:=∃o y,os id=some o/\qU o.τ o.x p=some y/\match o.row&&p.isEmpty with
   |true=>v=(Φ id).ax
   |false=>∃b off blk t,jV w o (Φ id) p b off/\w.heap[b]? = some (.cells blk t (0,0))/\v=j7 y.1 (ct blk off y.1.size)
def XU(v0:Value)(sz:Nat)(lo:Int)(v:Value):Prop:=∃ad n cap,v0 = .slice ad n cap/\0<=lo/\lo.toNat<=n/\v = .slice (if cap=lo.toNat then ad else ad.map (·.add (lo.toNat*sz))) (n-lo.toNat) (cap-lo.toNat)
def Xc(i f b:Nat)(cv:List Value):Array Value:=
 match i with
 |2=>cv.toArray
 |_=>#[.func (.func f) #[] (cv++[Value.pointer (some ⟨b,0,none⟩)]).toArray]
def qi(P:Program)(C:cM)(w:World)(H:FH)(Φ:Nat->qH)(os:Nat->Option Obj):AV->Value->Prop
 |.dead,_=>True
 |.val τ x,v=>τ.ay=true/\∃cs,v=j7 τ cs/\qm P τ w H x cs []
 |.ref τ x,v=>τ.ay=true/\∃b o blk,v = .pointer (some ⟨b,o,none⟩)/\H b=some (.cells blk)/\qm P τ w H x (ct blk o τ.size) []
 |.ptr id p,v=>∃o y b off,os id=some o/\(o.row&&p.isEmpty)=false/\qU o.τ o.x p=some y/\jV w o (Φ id) p b off/\v = .pointer (some ⟨b,off,none⟩)
 |.view id p,v=>∃o y,os id=some o/\qU o.τ o.x p=some y/\match o.row&&p.isEmpty with
   |true=>v=(Φ id).ax
   |false=>∃b off blk t,jV w o (Φ id) p b off/\w.heap[b]? = some (.cells blk t (0,0))/\v=j7 y.1 (ct blk off y.1.size)
 |.d_ id p tid e l,v=>∃o,os id=some o/\e.aD=true/\kq o.τ p=some (.list true tid e)/\
   ∃fp,fp.Nodup/\qm P (.list true tid e) w H l [v] fp/\∀b∈fp,b<w.heap.size/\(ei C w H Φ os b\/ia P w H o (Φ id) p b)
 |.cut id p z lo,v=>∃v0,DM w Φ os id p v0/\XU v0 z lo v
 |.fn f first aG,v=>∃vs us,v = .func (.func f) vs us/\qi P C w H Φ os first (.tuple vs)/\qi P C w H Φ os aG (.tuple us)
 |.nil,v=>v = .tuple #[]
 |.gh n a,_=>∃u,C.gh n=some u/\qi P C w H Φ os a u
 |.cv i f n,v=>∃(b:Nat) (cv:List Value),H b=some (.cells (Xc i f b cv))/\(cv.length=n/1000/\∀j u,cv[j]? = some u->∃φ,C.gQ (10000000+(n%1000+j))=some φ/\u = .pointer (some ⟨φ.b,0,none⟩))/\
   v=match i with
    |1=>.func (.func f) #[] (cv++[Value.pointer (some ⟨b,0,none⟩)]).toArray
    |_=>.pointer (some ⟨b,0,none⟩)
 |.cons a b,v=>∃u us,v = .tuple (u::us).toArray/\qi P C w H Φ os a u/\qi P C w H Φ os b (.tuple us.toArray)
def OZ(v:Value):Prop:=∃a n c,v = .slice (some a) n c
def Jn(id:Nat)(v:Value):Prop:=(4000000<=id->id<7000000->OZ v)/\(7000000<=id->id<10000000->v = .slice none 0 0)
theorem uE{id:Nat}{v:Value}(h:id<4000000):Jn id v:=⟨λ_ _=>by omega,λ_ _=>by omega⟩
def An:Bool->Value->Prop
 |true,v=>OZ v
 |false,v=>v = .slice none 0 0
theorem qjA{nn:Bool}{n:Nat}{v:Value}(hn:n<3000000)(h:An nn v):Jn (oB nn n) v:=by
 cases nn with
 |true=>exact⟨λ_ _=>h,λh1 _=>by have h1:7000000<=4000000+n:=h1;omega⟩
 |false=>exact⟨λ_ h1=>by have h1:7000000+n<7000000:=h1;omega,λ_ _=>h⟩
theorem qix{nn:Bool}{id:Nat}{v:Value}(h:Mu id nn=true)(hc:Jn id v):An nn v:=by
 cases nn with
 |true=>
  have h:(Nat.ble 4000000 id&&Nat.blt id 7000000)=true:=h
  rw[Bool.and_eq_true]at h
  exact hc.1 (Nat.le_of_ble_eq_true h.1) (Eq.mp Nat.blt_eq h.2)
 |false=>
  have h:(Nat.ble 7000000 id&&Nat.blt id 10000000)=true:=h
  rw[Bool.and_eq_true]at h
  exact hc.2 (Nat.le_of_ble_eq_true h.1) (Eq.mp Nat.blt_eq h.2)
theorem qg2{nn:Bool}{n:Nat}(hn:n<3000000):oB nn n<10000000:=by
 cases nn with
 |true=>show 4000000+n<10000000;omega
 |false=>show 7000000+n<10000000;omega
theorem qg3{nn:Bool}{n:Nat}:4000000<=oB nn n:=by
 cases nn with
 |true=>show 4000000<=4000000+n;omega
 |false=>show 4000000<=7000000+n;omega
theorem qjY{nn nn':Bool}{n m:Nat}(hn:n<3000000)(hm:m<3000000)(h:n≠m):oB nn n≠oB nn' m:=by
 cases nn<;>cases nn'<;>(intro e;simp only[oB,cond_true,cond_false]at e;omega)
theorem Dw{id:Nat}{v:Value}(h:10000000<=id):Jn id v:=⟨λ_ _=>by omega,λ_ _=>by omega⟩
structure qh (P:Program) (C:cM) (s:St) (a:Act) (w:World) (H:FH) (Φ:Nat->qH):Prop where
 defers:a.defers=C.ds
 size:a.tmps.size=C.nt
 le:C.H0.le H
 hok:cI H w
 hnew:∀b c,H b=some c->C.H0 b=some c\/C.M0 b\/C.w0.heap.size<=b
 mod:jO C.M0 C.w0 w
 ts:∀t av,s.get t=some av->qi P C w H Φ s.obj av (a.tmps.getD t undef)
 os:∀id o,s.obj id=some o->qR P w H o (Φ id)/\∀b∈(Φ id).fp,H b=none/\(C.M0 b\/C.w0.heap.size<=b)/\b<w.heap.size
 aN:∀i j o o',i≠j->s.obj i=some o->s.obj j=some o'->∀b∈(Φ i).fp,b∉(Φ j).fp
 pins:(∀id φ,C.gQ id=some φ->(Φ id).b=φ.b/\(Φ id).ax=φ.ax)/\∀id,Jn id (Φ id).ax
def dS(P:Program)(C:cM)(s:St)(a:Act)(w:World):Prop:=∃H Φ,qh P C s a w H Φ
section
variable {P:Program} {C:cM}
theorem qi.bK{w w':World}{H H':FH}{Φ aU:Nat->qH}{os os':Nat->Option Obj}(f:AV->Bool)(hH:H.le H')
  (yf:∀id p v,f (.ptr id p)=false->qi P C w H Φ os (.ptr id p) v->qi P C w' H' aU os' (.ptr id p) v)
  (mw:∀id p v,f (.view id p)=false->qi P C w H Φ os (.view id p) v->qi P C w' H' aU os' (.view id p) v)
  (tW:∀id p t e l v,f (.d_ id p t e l)=false->qi P C w H Φ os (.d_ id p t e l) v->qi P C w' H' aU os' (.d_ id p t e l) v):
  ∀(av:AV) (v:Value),qi P C w H Φ os av v->qi P C w' H' aU os' (av.af f) v
 |.dead,_,_=>by simp only[AV.af];cases f .dead<;>trivial
 |.val τ x,v,h=>by
  simp only[AV.af]
  cases f (.val τ x)with
  |true=>trivial
  |false=>obtain⟨h1,cs,h2,h3⟩:=h;exact⟨h1,cs,h2,qm.mono _ hH (by simp) h3⟩
 |.ref τ x,v,h=>by
  simp only[AV.af]
  cases f (.ref τ x)with
  |true=>trivial
  |false=>obtain⟨h1,b,o,blk,h2,h3,h4⟩:=h;exact⟨h1,b,o,blk,h2,hH _ _ h3,qm.mono _ hH (by simp) h4⟩
 |.ptr id p,v,h=>by
  simp only[AV.af]
  cases hf:f (.ptr id p)with
  |true=>trivial
  |false=>exact yf id p v hf h
 |.view id p,v,h=>by
  simp only[AV.af]
  cases hf:f (.view id p)with
  |true=>trivial
  |false=>exact mw id p v hf h
 |.d_ id p t e l,v,h=>by
  simp only[AV.af]
  cases hf:f (.d_ id p t e l)with
  |true=>trivial
  |false=>exact tW id p t e l v hf h
 |.cut id p z lo,v,h=>by
  simp only[AV.af]
  cases hf:f (.view id p)with
  |true=>trivial
  |false=>obtain⟨v0,h1,h2⟩:=h;exact⟨v0,mw id p v0 hf h1,h2⟩
 |.fn g first aG,v,h=>by
  obtain⟨vs,us,h1,h2,h3⟩:=h
  exact⟨vs,us,h1,qi.bK f hH yf mw tW first _ h2,qi.bK f hH yf mw tW aG _ h3⟩
 |.nil,v,h=>by simp only[AV.af];cases f .nil<;>first|trivial|exact h
 |.gh n a,v,h=>by
  obtain⟨u,h1,h2⟩:=h
  exact⟨u,h1,qi.bK f hH yf mw tW a _ h2⟩
 |.cv i g n,v,h=>by
  simp only[AV.af]
  cases f (.cv i g n)with
  |true=>trivial
  |false=>
   obtain⟨b,cv,h1,h2⟩:=h
   exact⟨b,cv,hH _ _ h1,h2⟩
 |.cons a b,v,h=>by
  obtain⟨u,us,h1,h2,h3⟩:=h
  exact⟨u,us,h1,qi.bK f hH yf mw tW a _ h2,qi.bK f hH yf mw tW b _ h3⟩
theorem jV.fN{w:World}{o:Obj}{φ:qH}{p:List qu}{b off b' off':Nat}(h:jV w o φ p b off)(k:jV w o φ p b' off'):b=b'/\off=off':=by
 obtain⟨row,τ,x⟩:=o
 cases row with
 |false=>exact jT.fN _ h k
 |true=>
  cases τ with
  |list own tid e=>
   cases own with
   |false=>exact h.elim
   |true=>
    match p with
    |[]=>exact h.elim
    |.L::_=>exact h.elim
    |.R::_=>exact h.elim
    |.I i::q=>
     obtain⟨g,n,cap,e1,e2⟩:=h
     obtain⟨g',n',cap',e3,e4⟩:=k
     rw[e1]at e3
     cases e3
     exact jT.fN _ e2 e4
  |_=>exact h.elim
theorem jV.keep{w w':World}(hk:∀a o v,Iu v=true->w.cell? ⟨a,o,none⟩=some v->w'.cell? ⟨a,o,none⟩=some v){o:Obj}{φ:qH}{p:List qu}{b off:Nat}(h:jV w o φ p b off):jV w' o φ p b off:=by
 obtain⟨row,τ,x⟩:=o
 cases row with
 |false=>exact jT.keep _ hk h
 |true=>
  cases τ with
  |list own tid e=>
   cases own with
   |false=>exact h.elim
   |true=>
    match p with
    |[]=>exact h.elim
    |.L::_=>exact h.elim
    |.R::_=>exact h.elim
    |.I i::q=>
     obtain⟨g,n,cap,e1,e2⟩:=h
     exact⟨g,n,cap,e1,jT.keep _ hk e2⟩
  |_=>exact h.elim
theorem qR.sU{w w':World}{H:FH}{o:Obj}{φ:qH}(hok:qR P w H o φ)(bl:∀b∈φ.fp,w'.heap[b]? = w.heap[b]?){p:List qu}{y}(hg:qU o.τ o.x p=some y)(hp:(o.row&&p.isEmpty)=false)
  {b off:Nat} (h:jV w o φ p b off):jV w' o φ p b off/\b∈φ.fp:=by
 obtain⟨b',o',hl,aX,t',pre',c,post',f1,f,f2,e1,e2,e3,e4,e5,_⟩:=hok.desc (y:=y.2) hg ⟨w,_,_,h⟩ hp
 obtain⟨rfl,rfl⟩:=jV.fN h (hl w (λ_ _=>rfl))
 exact⟨hl w' bl,by rw[e4];simp[e5]⟩
theorem qi.dU{w w':World}{H H':FH}{Φ aU:Nat->qH}{os os':Nat->Option Obj}{id:Nat}{p:List qu}{v:Value}(hos:∀o,os id=some o->os' id=some o)(gV:aU id=Φ id)
  (bh:∀o,os id=some o->qR P w H o (Φ id)/\∀b∈(Φ id).fp,w'.heap[b]? = w.heap[b]?)
  (h:qi P C w H Φ os (.ptr id p) v):qi P C w' H' aU os' (.ptr id p) v:=by
 obtain⟨o,y,b,off,h1,h2,h3,h4,h5⟩:=h
 obtain⟨hok,bl⟩:=bh o h1
 exact⟨o,y,b,off,hos o h1,h2,h3,by rw[gV];exact(hok.sU bl h3 h2 h4).1,h5⟩
theorem qi.cG{w w':World}{H H':FH}{Φ aU:Nat->qH}{os os':Nat->Option Obj}{id:Nat}{p:List qu}{v:Value}(hos:∀o,os id=some o->os' id=some o)(gV:aU id=Φ id)
  (bh:∀o,os id=some o->qR P w H o (Φ id)/\∀b∈(Φ id).fp,w'.heap[b]? = w.heap[b]?)
  (h:qi P C w H Φ os (.view id p) v):qi P C w' H' aU os' (.view id p) v:=by
 obtain⟨o,y,h1,h2,h3⟩:=h
 obtain⟨hok,bl⟩:=bh o h1
 refine⟨o,y,hos o h1,h2,?_⟩
 cases hr:o.row&&p.isEmpty with
 |true=>rw[hr]at h3;simp only at h3 ⊢;rw[gV];exact h3
 |false=>
  rw[hr]at h3
  obtain⟨b,off,blk,t,h4,h5,h6⟩:=h3
  obtain⟨h7,h8⟩:=hok.sU bl h2 hr h4
  exact⟨b,off,blk,t,by rw[gV];exact h7,by rw[bl b h8];exact h5,h6⟩
theorem qi.zV{w w':World}{H H':FH}{Φ:Nat->qH}{os:Nat->Option Obj}{id:Nat}{p:List qu}{tid:Nat}{e:Ty}{l:List e.den}{v:Value}(hH:H.le H')
  (hw:∀b,b<w.heap.size->w'.heap[b]? = w.heap[b]?) (hsz:w.heap.size<=w'.heap.size) (hfr:∀b,ei C w H Φ os b->H' b=none)
  (h:qi P C w H Φ os (.d_ id p tid e l) v):qi P C w' H' Φ os (.d_ id p tid e l) v:=by
 obtain⟨o,h1,h3,h4,fp,h0,h5,h6⟩:=h
 have hcell:∀a v,w.cell? a=some v->w'.cell? a=some v:=λa v ha=>by
  rw[World.cell?_of_block (hw _ (World.block_lt_of_cell? w a ha))];exact ha
 have hd:∀b,ia P w H o (Φ id) p b->ia P w' H' o (Φ id) p b:=by
  intro b uP
  unfold ia at uP ⊢
  cases hr:o.row&&p.isEmpty with
  |true=>rw[hr]at uP;exact uP
  |false=>
   rw[hr]at uP
   obtain⟨y,bb,off,blk,t,f,q1,q2,q3,q4,q5⟩:=uP
   exact⟨y,bb,off,blk,t,f,q1,jV.keep (λa o v _ ha=>hcell ⟨a,o,none⟩ _ ha) q2,(hw _ (Array.getElem?_eq_some_iff.1 q3).1).trans q3,qm.mono _ hH (λk hk=>by
    have ey:=jH _ q1
    rw[h4]at ey
    obtain⟨_,_,_,e⟩:=qm.cells _ (by injection ey with ey;rw[<-ey];exact h3) q4 k hk
    exact hw k (Array.getElem?_eq_some_iff.1 e).1) q4,q5⟩
 refine⟨o,h1,h3,h4,fp,h0,qm.mono _ hH (λb hb=>hw b (h6 b hb).1) h5,λb hb=>?_⟩
 obtain⟨hlt,h7⟩:=h6 b hb
 refine⟨Nat.lt_of_lt_of_le hlt hsz,?_⟩
 rcases h7 with hf|q1
 ·exact .inl ⟨hfr b hf,hf.obj,hf.may,Nat.lt_of_lt_of_le hf.lt hsz⟩
 ·exact .inr (hd b q1)
theorem qi.e_(f:AV->Bool)(hf:∀a,f a=false):∀a:AV,a.af f=a
 |.dead=>by simp[AV.af,hf]
 |.val _ _=>by simp[AV.af,hf]
 |.ref _ _=>by simp[AV.af,hf]
 |.ptr _ _=>by simp[AV.af,hf]
 |.view _ _=>by simp[AV.af,hf]
 |.d_ _ _ _ _ _=>by simp[AV.af,hf]
 |.cut _ _ _ _=>by simp[AV.af,hf]
 |.fn _ a b=>by simp[AV.af,qi.e_ f hf a,qi.e_ f hf b]
 |.nil=>by simp[AV.af,hf]
 |.gh _ a=>by simp[AV.af,qi.e_ f hf a]
 |.cv _ _ _=>by simp[AV.af,hf]
 |.cons a b=>by simp[AV.af,qi.e_ f hf a,qi.e_ f hf b]
theorem qi.grow{w w':World}{H H':FH}{Φ:Nat->qH}{os:Nat->Option Obj}(hH:H.le H')
  (hos:∀id o,os id=some o->qR P w H o (Φ id)/\∀b∈(Φ id).fp,b<w.heap.size)
  (hw:∀b,b<w.heap.size->w'.heap[b]? = w.heap[b]?) (hsz:w.heap.size<=w'.heap.size) (hfr:∀b,ei C w H Φ os b->H' b=none)
  {av:AV} {v:Value} (h:qi P C w H Φ os av v):qi P C w' H' Φ os av v:=by
 have:=qi.bK (P:=P) (C:=C) (w:=w) (w':=w') (H:=H) (H':=H') (Φ:=Φ) (aU:=Φ) (os:=os) (os':=os) (λ_=>false) hH
  (λid p v _ hh=>qi.dU (λ_ h=>h) rfl (λo ho=>⟨(hos id o ho).1,λb hb=>hw b ((hos id o ho).2 b hb)⟩) hh)
  (λid p v _ hh=>qi.cG (λ_ h=>h) rfl (λo ho=>⟨(hos id o ho).1,λb hb=>hw b ((hos id o ho).2 b hb)⟩) hh)
  (λid p t e l v _ hh=>qi.zV hH hw hsz hfr hh) av v h
 rwa[qi.e_ _ (λ_=>rfl)]at this
theorem qnk{α β:Type}(g:α->β):∀(l:List (Nat×α)) (n:Nat),lk (l.map λx=>(x.1,g x.2)) n=(lk l n).map g
 |[],_=>rfl
 |(m,a)::r,n=>by
  simp only[List.map_cons,lk]
  cases Nat.beq m n with
  |true=>rfl
  |false=>exact qnk g r n
theorem St.aS(s:St)(f:AV->Bool)(t:Nat):(s.af f).get t=(s.get t).map (AV.af f):=qnk _ _ _
theorem St.cU(s:St)(f:AV->Bool):(s.af f).obj=s.obj:=rfl
theorem St.Ic(s:St)(t:Nat)(a:AV):(s.set t a).obj=s.obj:=rfl
theorem St.cZ(s:St)(id:Nat)(o:Option Obj):(s.setObj id o).get=s.get:=rfl
theorem St.lj(s:St)(t u:Nat)(a:AV):(s.set t a).get u=if t=u then some a else s.get u:=by
 show(bif Nat.beq t u then some a else lk s.ts u)=_
 cases h:Nat.beq t u with
 |true=>rw[if_pos (Nat.eq_of_beq_eq_true h)];rfl
 |false=>rw[if_neg (Nat.ne_of_beq_eq_false h)];rfl
theorem St.ak(s:St)(id j:Nat)(o:Option Obj):(s.setObj id o).obj j=if id=j then o else s.obj j:=by
 show(bif Nat.beq id j then some o else lk s.os j).join=_
 cases h:Nat.beq id j with
 |true=>rw[if_pos (Nat.eq_of_beq_eq_true h)];rfl
 |false=>rw[if_neg (Nat.ne_of_beq_eq_false h)];rfl
theorem Ze{a:Act}{d:Nat}{v:Value}(hd:d<a.tmps.size)(t:Nat):(a.put (some d) v).tmps.getD t undef=if d=t then v else a.tmps.getD t undef:=by
 simp only[Act.put,Array.getD_eq_getD_getElem?,Array.getElem?_setIfInBounds]
 by_cases h:d=t
 ·subst h;simp[hd]
 ·simp[h]
theorem Bg(a:Act)(d:Option Nat)(v:Value):(a.put d v).tmps.size=a.tmps.size:=by cases d<;>simp[Act.put]
theorem qh.set{s:St}{a:Act}{w:World}{H:FH}{Φ:Nat->qH}(h:qh P C s a w H Φ){d:Nat}(hd:d<C.nt){av:AV}{v:Value}(hv:qi P C w H Φ s.obj av v):
  qh P C (s.set d av) (a.put (some d) v) w H Φ where
 defers:=h.defers
 size:=by rw[Bg];exact h.size
 le:=h.le
 hok:=h.hok
 hnew:=h.hnew
 mod:=h.mod
 ts:=by
  intro t Xu ht
  rw[St.lj]at ht
  rw[Ze (by rw[h.size];exact hd)]
  split at ht
  ·rename_i e;rw[if_pos e];cases ht;exact hv
  ·rename_i e;rw[if_neg e];exact h.ts t Xu ht
 os:=h.os
 aN:=h.aN
 pins:=h.pins
theorem qh.ah{s:St}{a:Act}{w:World}{H:FH}{Φ:Nat->qH}(h:qh P C s a w H Φ){d:Option Nat}(hd:qK C.nt d=true){av:AV}{v:Value}(hv:qi P C w H Φ s.obj av v):
  qh P C (s.ah d av) (a.put d v) w H Φ:=by
 cases d with
 |none=>exact h
 |some d=>exact h.set (Eq.mp Nat.blt_eq hd) hv
theorem qh.AA{s:St}{a:Act}{w:World}{H:FH}{Φ:Nat->qH}{t:Nat}{av:AV}(h:qh P C s a w H Φ)(hr:qi P C w H Φ s.obj av (a.tmps.getD t undef)):qh P C (s.set t av) a w H Φ:=by
 refine⟨h.defers,h.size,h.le,h.hok,h.hnew,h.mod,?_,h.os,h.aN,h.pins⟩
 intro u Xu hu
 rw[St.lj]at hu
 split at hu
 ·rename_i e;subst e;cases hu;exact hr
 ·exact h.ts u Xu hu
theorem qh.grow{s:St}{a:Act}{w w':World}{H:FH}{Φ:Nat->qH}(h:qh P C s a w H Φ)(hm:jO jA w w'):qh P C s a w' H Φ:=by
 have hw:∀b,b<w.heap.size->w'.heap[b]? = w.heap[b]?:=λb hb=>hm.block b hb (λh=>h)
 refine⟨h.defers,h.size,h.le,h.hok.mod hm (λ_ hb=>hb.elim),h.hnew,h.mod.trans (hm.mono (λ_ hb=>hb.elim)),?_,?_,h.aN,h.pins⟩
 ·intro t av ht
  exact qi.grow (FH.le_refl _) (λid o ho=>⟨(h.os id o ho).1,λb hb=>((h.os id o ho).2 b hb).2.2⟩) hw hm.size (λb hf=>hf.fz) (h.ts t av ht)
 ·intro id o ho
  obtain⟨h1,h2⟩:=h.os id o ho
  exact⟨h1.frame (FH.le_refl _) (λb hb=>hw b (h2 b hb).2.2),λb hb=>⟨(h2 b hb).1,(h2 b hb).2.1,Nat.lt_of_lt_of_le (h2 b hb).2.2 hm.size⟩⟩
theorem dS.grow{s:St}{a:Act}{w w':World}(h:dS P C s a w)(hm:jO jA w w'):dS P C s a w':=by
 obtain⟨H,Φ,h⟩:=h
 exact⟨H,Φ,h.grow hm⟩
theorem qh.weaken{s s':St}{a:Act}{w:World}{H:FH}{Φ:Nat->qH}(h:qh P C s a w H Φ)(ho:∀id o,s'.obj id=some o->s.obj id=some o)
  (ht:∀t av,s'.get t=some av->qi P C w H Φ s'.obj av (a.tmps.getD t undef)):qh P C s' a w H Φ:=
 ⟨h.defers,h.size,h.le,h.hok,h.hnew,h.mod,ht,λid o hh=>h.os id o (ho id o hh),λi j o o' hij h1 h2=>h.aN i j o o' hij (ho _ _ h1) (ho _ _ h2),h.pins⟩
end
end Go.Vi
namespace Go.Vi
section
variable {P:Program} {C:cM}
theorem wx:(τ:Ty)->τ.aD=true->∀{x:τ.den} {p:List qu} {y},qU τ x p=some y->y.1.aD=true
 |.pair a b,hn,x,p,y,h=>by
  have hn':=hn
  simp only[Ty.aD,Bool.and_eq_true]at hn'
  match p with
  |[]=>cases h;exact hn
  |.L::q=>exact wx a hn'.1 h
  |.R::q=>exact wx b hn'.2 h
  |.I _::_=>cases h
 |.str t,hn,x,p,y,h=>by
  match p with
  |[]=>cases h;exact hn
  |s::q=>exact wx t hn h
 |.list true tid e,hn,x,p,y,h=>by
  match p with
  |[]=>cases h;exact hn
  |.L::_=>cases h
  |.R::_=>cases h
  |.I i::q=>
   simp only[qU]at h
   split at h
   ·obtain⟨z,_,h⟩:=Option.bind_eq_some_iff.1 h
    exact wx e hn h
   ·cases h
 |.arr n e,hn,x,p,y,h=>by
  match p with
  |[]=>cases h;exact hn
  |.L::_=>cases h
  |.R::_=>cases h
  |.I i::q=>
   simp only[qU]at h
   split at h
   ·obtain⟨z,_,h⟩:=Option.bind_eq_some_iff.1 h
    exact wx e hn h
   ·cases h
 |.op t,hn,x,p,y,h=>by
  match p with
  |[]=>cases h;exact hn
  |.L::_=>cases h
  |.R::_=>cases h
  |.I i::q=>
   simp only[qU]at h
   obtain⟨z,_,h⟩:=Option.bind_eq_some_iff.1 h
   exact wx t hn h
 |.int _,hn,_,p,_,h=>by cases p<;>cases h;exact hn
 |.bool,hn,_,p,_,h=>by cases p<;>cases h;exact hn
 |.list false _ _,hn,_,p,_,h=>by cases p<;>cases h;exact hn
 |.ptr _,hn,_,p,_,h=>by cases p<;>cases h;exact hn
 |.fn _ _,hn,_,p,_,h=>by cases p<;>cases h;exact hn
 |.bQ _ _ _,hn,_,p,_,h=>by cases p<;>cases h;exact hn
 |.ext _ _ _ _,hn,_,p,_,h=>by cases p<;>cases h;exact hn
theorem Gl:(τ:Ty)->τ.eM=true->∀{x:τ.den} {p:List qu} {y},qU τ x p=some y->y.1.eM=true
 |.pair a b,hn,x,p,y,h=>by
  have hn':=hn
  simp only[Ty.eM,Bool.and_eq_true]at hn'
  match p with
  |[]=>cases h;exact hn
  |.L::q=>exact Gl a hn'.1 h
  |.R::q=>exact Gl b hn'.2 h
  |.I _::_=>cases h
 |.str t,hn,x,p,y,h=>by
  match p with
  |[]=>cases h;exact hn
  |s::q=>exact Gl t hn h
 |.ext _ _ _ _,hn,_,p,_,h=>by cases p<;>cases h;exact hn
 |.list o t e,hn,x,p,y,h=>Ty.bI _ (wx (.list o t e) hn h)
 |.arr n e,hn,x,p,y,h=>Ty.bI _ (wx (.arr n e) hn h)
 |.op t,hn,x,p,y,h=>Ty.bI _ (wx (.op t) hn h)
 |.int k,hn,x,p,y,h=>Ty.bI _ (wx (.int k) hn h)
 |.bool,hn,x,p,y,h=>Ty.bI _ (wx .bool hn h)
 |.ptr t,hn,x,p,y,h=>Ty.bI _ (wx (.ptr t) hn h)
 |.fn a r,hn,x,p,y,h=>Ty.bI _ (wx (.fn a r) hn h)
 |.bQ a b r,hn,x,p,y,h=>Ty.bI _ (wx (.bQ a b r) hn h)
theorem qh.congr{s s':St}{a:Act}{w:World}{H:FH}{Φ:Nat->qH}(h:qh P C s a w H Φ)(hg:s'.get=s.get)(ho:s'.obj=s.obj):qh P C s' a w H Φ:=
 ⟨h.defers,h.size,h.le,h.hok,h.hnew,h.mod,by rw[hg,ho];exact h.ts,by rw[ho];exact h.os,by rw[ho];exact h.aN,h.pins⟩
theorem qfe{id:Nat}{j:Nat}{p:List qu}(h:AV.names id (.ptr j p)=false):j≠id:=Nat.ne_of_beq_eq_false h
theorem qeJ{id:Nat}{j:Nat}{p:List qu}(h:AV.names id (.view j p)=false):j≠id:=Nat.ne_of_beq_eq_false h
theorem qh.remove{s:St}{a:Act}{w:World}{H:FH}{Φ:Nat->qH}(h:qh P C s a w H Φ)(id:Nat):qh P C ((s.kill id).setObj id none) a w H Φ:=by
 have ho:∀j o,((s.kill id).setObj id none).obj j=some o->s.obj j=some o/\j≠id:=by
  intro j o hj
  rw[St.ak]at hj
  split at hj
  ·cases hj
  ·rename_i hne;exact⟨hj,λe=>hne e.symm⟩
 refine h.weaken (λj o hj=>(ho j o hj).1) ?_
 intro t av ht
 rw[St.cZ,St.kill,St.aS]at ht
 obtain⟨jm,h0,rfl⟩:=Option.map_eq_some_iff.1 ht
 have hos:∀j o,j≠id->s.obj j=some o->((s.kill id).setObj id none).obj j=some o:=by
  intro j o hj ho
  rw[St.ak,if_neg (λe=>hj e.symm)];exact ho
 refine qi.bK (AV.names id) (FH.le_refl _) ?_ ?_ ?_ jm _ (h.ts t jm h0)
 ·intro j p v hf hr
  exact qi.dU (λo ho=>hos j o (qfe hf) ho) rfl (λo ho=>⟨(h.os j o ho).1,λ_ _=>rfl⟩) hr
 ·intro j p v hf hr
  exact qi.cG (λo ho=>hos j o (qeJ hf) ho) rfl (λo ho=>⟨(h.os j o ho).1,λ_ _=>rfl⟩) hr
 ·intro j p t e l v hf;cases hf
theorem qh.af{s:St}{a:Act}{w:World}{H:FH}{Φ:Nat->qH}(h:qh P C s a w H Φ)(f:AV->Bool):qh P C (s.af f) a w H Φ:=by
 refine h.weaken (λj o hj=>hj) ?_
 intro t av ht
 rw[St.aS]at ht
 obtain⟨jm,h0,rfl⟩:=Option.map_eq_some_iff.1 ht
 exact qi.bK f (FH.le_refl _) (λ_ _ _ _ hr=>hr) (λ_ _ _ _ hr=>hr) (λ_ _ _ _ _ _ _ hr=>hr) jm _ (h.ts t jm h0)
def rX(Φ:Nat->qH)(id:Nat)(φ:qH)(j:Nat):qH:=if j=id then φ else Φ j
theorem qt(Φ:Nat->qH)(id:Nat)(φ:qH):rX Φ id φ id=φ:=if_pos rfl
theorem qW(Φ:Nat->qH){id j:Nat}(φ:qH)(h:j≠id):rX Φ id φ j=Φ j:=if_neg h
theorem qh.newObj{s:St}{a:Act}{w w':World}{H:FH}{Φ:Nat->qH}(h:qh P C s a w H Φ)(hm:jO jA w w'){id:Nat}(dN:C.gQ id=none)
  {row:Bool} {τ:Ty} {x:τ.den} {φ:qH} (dH:Jn id φ.ax) (hok:qR P w' H ⟨row,τ,x⟩ φ)
  (bl:∀b∈φ.fp,H b=none/\(C.M0 b\/C.w0.heap.size<=b)/\b<w'.heap.size/\∀j o',j≠id->s.obj j=some o'->b∉(Φ j).fp):
  qh P C (s.newObj id row τ x) a w' H (rX Φ id φ):=by
 have hg:=h.grow hm
 have hw:∀b,b<w.heap.size->w'.heap[b]? = w.heap[b]?:=λb hb=>hm.block b hb (λh=>h)
 have bF:∀j,(s.newObj id row τ x).obj j=if id=j then some ⟨row,τ,x⟩else s.obj j:=λj=>St.ak _ _ _ _
 have hos:∀j o,j≠id->s.obj j=some o->(s.newObj id row τ x).obj j=some o:=by
  intro j o hj ho
  rw[bF,if_neg (λe=>hj e.symm)];exact ho
 refine⟨h.defers,h.size,h.le,hg.hok,h.hnew,hg.mod,?_,?_,?_,?_⟩
 ·intro t av ht
  have ht':(s.kill id).get t=some av:=ht
  rw[St.kill,St.aS]at ht'
  obtain⟨jm,h0,rfl⟩:=Option.map_eq_some_iff.1 ht'
  refine qi.bK (AV.names id) (FH.le_refl _) ?_ ?_ ?_ jm _ (h.ts t jm h0)
  ·intro j p v hf hr
   exact qi.dU (λo ho=>hos j o (qfe hf) ho) (qW _ _ (qfe hf)) (λo ho=>⟨(h.os j o ho).1,λb hb=>hw b ((h.os j o ho).2 b hb).2.2⟩) hr
  ·intro j p v hf hr
   exact qi.cG (λo ho=>hos j o (qeJ hf) ho) (qW _ _ (qeJ hf)) (λo ho=>⟨(h.os j o ho).1,λb hb=>hw b ((h.os j o ho).2 b hb).2.2⟩) hr
  ·intro j p t e l v hf;cases hf
 ·intro j o ho
  rw[bF]at ho
  split at ho
  ·rename_i e
   subst e
   cases ho
   rw[qt]
   exact⟨hok,λb hb=>⟨(bl b hb).1,(bl b hb).2.1,(bl b hb).2.2.1⟩⟩
  ·rename_i e
   rw[qW _ _ (λe'=>e e'.symm)]
   exact hg.os j o ho
 ·intro i j o o' hij h1 h2 b hb
  rw[bF]at h1 h2
  split at h1
  ·rename_i e
   subst e
   rw[qt]at hb
   rw[if_neg hij]at h2
   rw[qW _ _ (λe'=>hij e'.symm)]
   exact(bl b hb).2.2.2 j o' (λe'=>hij e'.symm) h2
  ·rename_i e
   rw[qW _ _ (λe'=>e e'.symm)]at hb
   split at h2
   ·rename_i e2
    subst e2
    rw[qt]
    intro hb'
    exact(bl b hb').2.2.2 i o hij h1 hb
   ·rename_i e2
    rw[qW _ _ (λe'=>e2 e'.symm)]
    exact h.aN i j o o' hij h1 h2 b hb
 ·refine⟨λj eE hj=>?_,λj=>?_⟩
  ·by_cases e:j=id
   ·subst e;rw[dN]at hj;cases hj
   ·rw[qW _ _ e];exact h.pins.1 j eE hj
  ·by_cases e:j=id
   ·subst e;rw[qt];exact dH
   ·rw[qW _ _ e];exact h.pins.2 j
def w_(w:World)(H:FH)(fp:List Nat)(b:Nat):Option FB:=
 if b∈fp then(match w.heap[b]? with|some (.cells c _ _)=>some (.cells c)|some (.map es n)=>some (.map es n)|_=>none)else H b
theorem Rg{w:World}{H:FH}{fp:List Nat}(h:∀b∈fp,H b=none):H.le (w_ w H fp):=by
 intro b c hb
 unfold w_
 rw[if_neg (λhh=>by rw[h b hh]at hb;cases hb)]
 exact hb
theorem qnw{w:World}{H:FH}{fp:List Nat}:∀b∈fp,∀c:FB,c.At w b->w_ w H fp b=some c:=by
 intro b hb c hw
 cases c with
 |cells c=>obtain⟨t,f,hw⟩:=hw;simp[w_,hb,hw]
 |map es n=>have hw:w.heap[b]? = some (.map es n):=hw;simp[w_,hb,hw]
theorem qn5{w:World}{H:FH}{fp:List Nat}(h:cI H w):cI (w_ w H fp) w:=by
 intro b c hb
 unfold w_ at hb
 split at hb
 ·split at hb
  ·rename_i e;cases hb;exact⟨_,_,e⟩
  ·rename_i e;cases hb;exact e
  ·cases hb
 ·exact h b c hb
theorem qld{w:World}{H:FH}{fp:List Nat}{b:Nat}{c:FB}(h:w_ w H fp b=some c):H b=some c\/b∈fp:=by
 unfold w_ at h
 split at h
 ·exact .inr ‹_›
 ·exact .inl h
theorem qZ{c:Array Value}{pre m post:List Value}{n:Nat}(h:c.toList=pre++m++post)(hn:m.length=n):ct c pre.length n=m:=by
 unfold ct
 rw[h,List.append_assoc,List.drop_left,<-hn,List.take_left]
theorem TL(τ:Ty)(cs:List Value):j7 τ.fz cs=j7 τ cs:=by simp[j7,Ty.tT]
theorem qi.frozen{w:World}{H H':FH}{Φ:Nat->qH}{os os':Nat->Option Obj}{id:Nat}{o:Obj}(ho:os id=some o)(hH:H.le H')
  (hin:∀b∈(Φ id).fp,∀c:FB,c.At w b->H' b=some c) (hok:∀j o,os j=some o->qR P w H o (Φ j)) (hos:∀j o,j≠id->os j=some o->os' j=some o):
  ∀(av:AV) (v:Value),qi P C w H Φ os av v->qi P C w H' Φ os' (av.frozen id o) v
 |.dead,_,_=>trivial
 |.val τ x,v,⟨h1,cs,h2,h3⟩=>⟨h1,cs,h2,qm.mono _ hH (by simp) h3⟩
 |.ref τ x,v,⟨h1,b,off,blk,h2,h3,h4⟩=>⟨h1,b,off,blk,h2,hH _ _ h3,qm.mono _ hH (by simp) h4⟩
 |.ptr i p,v,h=>by
  simp only[AV.frozen]
  cases hi:Nat.beq i id with
  |false=>
   have hne:=Nat.ne_of_beq_eq_false hi
   exact qi.dU (λo' ho'=>hos i o' hne ho') rfl (λo' ho'=>⟨hok i o' ho',λ_ _=>rfl⟩) h
  |true=>
   obtain rfl:=Nat.eq_of_beq_eq_true hi
   cases hr:o.row with
   |true=>trivial
   |false=>
    show qi P C w H' Φ os' (match yZ o.τ o.x p with|some y=>_|none=>.dead) v
    cases hy:yZ o.τ o.x p with
    |none=>trivial
    |some y=>
     obtain⟨o1,y1,b,off,h1,h2,h3,h4,h5⟩:=h
     rw[ho]at h1
     cases h1
     have hg:=Uq _ hy
     rw[hg]at h3
     cases h3
     obtain⟨b',o',hl,aX,t',pre',c,post',f1,f,f2,e1,e2,e3,e4,e5,e6,_⟩:=(hok i o ho).desc (y:=y.2) hg ⟨w,_,_,h4⟩ h2
     obtain⟨rfl,rfl⟩:=jV.fN h4 (hl w (λ_ _=>rfl))
     have Gx:y.1.eM=true:=Gl _ (hok i o ho).1 hg
     refine⟨Ty.bY _,b,off,aX,h5,hin b (by rw[e4];simp[e5]) (.cells _) ⟨_,_,e1⟩,?_⟩
     rw[Ty.dy,<-e3,qZ e2 (qm.length _ e6)]
     exact qm.eD y.1 Gx w hH (λb hb=>hin b (by rw[e4];simp[hb])) e6 _
 |.view i p,v,h=>by
  simp only[AV.frozen]
  cases hi:Nat.beq i id with
  |false=>
   have hne:=Nat.ne_of_beq_eq_false hi
   exact qi.cG (λo' ho'=>hos i o' hne ho') rfl (λo' ho'=>⟨hok i o' ho',λ_ _=>rfl⟩) h
  |true=>
   obtain rfl:=Nat.eq_of_beq_eq_true hi
   show qi P C w H' Φ os' (match yZ o.τ o.x p with|some y=>_|none=>.dead) v
   cases hy:yZ o.τ o.x p with
   |none=>trivial
   |some y=>
    obtain⟨o1,y1,h1,h3,h4⟩:=h
    rw[ho]at h1
    cases h1
    have hg:=Uq _ hy
    rw[hg]at h3
    cases h3
    have Gx:y.1.eM=true:=Gl _ (hok i o ho).1 hg
    cases hr:o.row&&p.isEmpty with
    |true=>
     rw[hr]at h4
     simp only[Bool.and_eq_true,List.isEmpty_iff]at hr
     obtain⟨hrow,rfl⟩:=hr
     rw[qO]at hg
     cases hg
     obtain⟨hn,_,h5⟩:=hok i o ho
     rw[hrow]at h5
     obtain⟨_,cs,hcs,h6⟩:=h5
     refine⟨Ty.bY _,cs,?_,qm.eD o.τ hn w hH hin h6 _⟩
     simp only at h4
     rw[h4,TL]
     exact hcs
    |false=>
     rw[hr]at h4
     obtain⟨b,off,blk,t,h5,h6,h7⟩:=h4
     obtain⟨b',o',hl,aX,t',pre',c,post',f1,f,f2,e1,e2,e3,e4,e5,e6,_⟩:=(hok i o ho).desc (y:=y.2) hg ⟨w,_,_,h5⟩ hr
     obtain⟨rfl,rfl⟩:=jV.fN h5 (hl w (λ_ _=>rfl))
     rw[e1]at h6
     cases h6
     refine⟨Ty.bY _,c,?_,qm.eD y.1 Gx w hH (λb hb=>hin b (by rw[e4];simp[hb])) e6 _⟩
     rw[h7,TL,<-e3,qZ e2 (qm.length _ e6)]
 |.d_ _ _ _ _ _,_,_=>trivial
 |.cut i p z lo,v,h=>by
  simp only[AV.frozen]
  cases hi:Nat.beq i id with
  |true=>trivial
  |false=>
   have hne:=Nat.ne_of_beq_eq_false hi
   obtain⟨v0,h1,h2⟩:=h
   exact⟨v0,qi.cG (P:=P) (C:=C) (H:=H) (H':=H') (p:=p) (λo' ho'=>hos i o' hne ho') rfl (λo' ho'=>⟨hok i o' ho',λ_ _=>rfl⟩) h1,h2⟩
 |.fn g a b,v,⟨vs,us,h1,h2,h3⟩=>⟨vs,us,h1,qi.frozen ho hH hin hok hos a _ h2,qi.frozen ho hH hin hok hos b _ h3⟩
 |.nil,v,h=>h
 |.gh n a,v,⟨u,h1,h2⟩=>⟨u,h1,qi.frozen ho hH hin hok hos a _ h2⟩
 |.cv i g n,v,⟨b,cv,h1,h2⟩=>⟨b,cv,hH _ _ h1,h2⟩
 |.cons a b,v,⟨u,us,h1,h2,h3⟩=>⟨u,us,h1,qi.frozen ho hH hin hok hos a _ h2,qi.frozen ho hH hin hok hos b _ h3⟩
theorem qh.freeze{s:St}{a:Act}{w:World}{H:FH}{Φ:Nat->qH}(h:qh P C s a w H Φ)(id:Nat):
  ∃H',H.le H'/\(∀b c,H' b=some c->H b=some c\/∃o,s.obj id=some o/\b∈(Φ id).fp)/\(∀o,s.obj id=some o->∀b∈(Φ id).fp,∀c:FB,c.At w b->H' b=some c)/\qh P C (s.freeze id) a w H' Φ:=by
 unfold St.freeze
 cases ho:s.obj id with
 |none=>exact⟨H,FH.le_refl _,λ_ _ hb=>.inl hb,(λo hh=>by cases hh),h⟩
 |some o=>
  have hnone:∀b∈(Φ id).fp,H b=none:=λb hb=>((h.os id o ho).2 b hb).1
  have bF:∀j,(St.mk (s.ts.map λx=>(x.1,x.2.frozen id o)) ((id,none)::s.os) s.mp).obj j=if id=j then none else s.obj j:=λj=>St.ak s id j none
  have hsub:∀j o',(St.mk (s.ts.map λx=>(x.1,x.2.frozen id o)) ((id,none)::s.os) s.mp).obj j=some o'->s.obj j=some o'/\j≠id:=by
   intro j o' hj
   rw[bF]at hj
   split at hj
   ·cases hj
   ·rename_i e;exact⟨hj,λe'=>e e'.symm⟩
  refine⟨w_ w H (Φ id).fp,Rg hnone,λb c hb=>(qld hb).imp_right (λhh=>⟨o,rfl,hh⟩),λo' _=>qnw,h.defers,h.size,FH.le_trans h.le (Rg hnone),qn5 h.hok,?_,h.mod,?_,?_,?_,h.pins⟩
  ·intro b c hb
   rcases qld hb with hb|hb
   ·exact h.hnew b c hb
   ·exact .inr ((h.os id o ho).2 b hb).2.1
  ·intro t av ht
   have ht':lk (s.ts.map λx=>(x.1,x.2.frozen id o)) t=some av:=ht
   rw[qnk]at ht'
   obtain⟨jm,h0,rfl⟩:=Option.map_eq_some_iff.1 ht'
   exact qi.frozen ho (Rg hnone) qnw (λj o hj=>(h.os j o hj).1) (λj o' hj cu=>by rw[bF,if_neg (λe=>hj e.symm)];exact cu) jm _ (h.ts t jm h0)
  ·intro j o' hj
   obtain⟨hj,hne⟩:=hsub j o' hj
   obtain⟨h1,h2⟩:=h.os j o' hj
   refine⟨h1.frame (Rg hnone) (λ_ _=>rfl),λb hb=>⟨?_,(h2 b hb).2⟩⟩
   unfold w_
   rw[if_neg (h.aN j id o' o hne hj ho b hb)]
   exact(h2 b hb).1
  ·intro i j o1 o2 hij h1 h2
   exact h.aN i j o1 o2 hij (hsub _ _ h1).1 (hsub _ _ h2).1
theorem RM:(τ:Ty)->∀(x:τ.den) {p:List qu} {σ:Ty},p.any qu.dW=false->kq τ p=some σ->∃y:σ.den,qU τ x p=some ⟨σ,y⟩
 |.pair a b,x,p,σ,hp,h=>by
  match p with
  |[]=>cases h;exact⟨x,rfl⟩
  |.L::q=>exact RM a x.1 (by simpa[qu.dW]using hp) h
  |.R::q=>exact RM b x.2 (by simpa[qu.dW]using hp) h
  |.I _::_=>cases h
 |.str t,x,p,σ,hp,h=>by
  match p with
  |[]=>cases h;exact⟨x,rfl⟩
  |s::q=>exact RM t x hp h
 |.list true tid e,x,p,σ,hp,h=>by
  match p with
  |[]=>cases h;exact⟨x,rfl⟩
  |.L::_=>cases h
  |.R::_=>cases h
  |.I _::_=>simp[qu.dW]at hp
 |.arr n e,x,p,σ,hp,h=>by
  match p with
  |[]=>cases h;exact⟨x,rfl⟩
  |.L::_=>cases h
  |.R::_=>cases h
  |.I _::_=>simp[qu.dW]at hp
 |.op _,x,p,σ,hp,h=>by
  match p with
  |[]=>cases h;exact⟨x,rfl⟩
  |.L::_=>cases h
  |.R::_=>cases h
  |.I _::_=>simp[qu.dW]at hp
 |.int _,x,p,_,_,h=>by cases p<;>cases h;exact⟨x,rfl⟩
 |.bool,x,p,_,_,h=>by cases p<;>cases h;exact⟨x,rfl⟩
 |.list false _ _,x,p,_,_,h=>by cases p<;>cases h;exact⟨x,rfl⟩
 |.ptr _,x,p,_,_,h=>by cases p<;>cases h;exact⟨x,rfl⟩
 |.fn _ _,x,p,_,_,h=>by cases p<;>cases h;exact⟨x,rfl⟩
 |.bQ _ _ _,x,p,_,_,h=>by cases p<;>cases h;exact⟨x,rfl⟩
 |.ext _ _ _ _,x,p,_,_,h=>by cases p<;>cases h;exact⟨x,rfl⟩
theorem jT.range:(τ:Ty)->∀{w:World} {b o:Nat} {p:List qu} {b' o':Nat} {σ:Ty},p.any qu.dW=false->jT w τ b o p b' o'->kq τ p=some σ->b'=b/\o<=o'/\o'+σ.size<=o+τ.size
 |.pair x y,w,b,o,p,b',o',σ,hp,h,ht=>by
  match p with
  |[]=>cases ht;exact⟨h.1,by have:=h.2;omega,by have:=h.2;omega⟩
  |.L::q=>obtain⟨h1,h2,h3⟩:=jT.range x (by simpa[qu.dW]using hp) h ht;exact⟨h1,h2,by simp only[Ty.size];omega⟩
  |.R::q=>obtain⟨h1,h2,h3⟩:=jT.range y (by simpa[qu.dW]using hp) h ht;exact⟨h1,by omega,by simp only[Ty.size];omega⟩
  |.I _::_=>cases ht
 |.str t,w,b,o,p,b',o',σ,hp,h,ht=>by
  match p with
  |[]=>cases ht;exact⟨h.1,by have:=h.2;omega,by have:=h.2;omega⟩
  |s::q=>exact jT.range t hp h ht
 |.list true _ e,w,b,o,p,b',o',σ,hp,h,ht=>by
  match p with
  |[]=>cases ht;exact⟨h.1,by have:=h.2;omega,by have:=h.2;omega⟩
  |.L::_=>cases ht
  |.R::_=>cases ht
  |.I _::_=>simp[qu.dW]at hp
 |.arr n e,w,b,o,p,b',o',σ,hp,h,ht=>by
  match p with
  |[]=>cases ht;exact⟨h.1,by have:=h.2;omega,by have:=h.2;omega⟩
  |.L::_=>cases ht
  |.R::_=>cases ht
  |.I _::_=>simp[qu.dW]at hp
 |.op _,w,b,o,p,b',o',σ,hp,h,ht=>by
  match p with
  |[]=>cases ht;exact⟨h.1,by have:=h.2;omega,by have:=h.2;omega⟩
  |.L::_=>cases ht
  |.R::_=>cases ht
  |.I _::_=>simp[qu.dW]at hp
 |.int _,w,b,o,p,b',o',σ,hp,h,ht=>by obtain⟨rfl,rfl,rfl⟩:=h;cases ht;exact⟨rfl,Nat.le_refl _,Nat.le_refl _⟩
 |.bool,w,b,o,p,b',o',σ,hp,h,ht=>by obtain⟨rfl,rfl,rfl⟩:=h;cases ht;exact⟨rfl,Nat.le_refl _,Nat.le_refl _⟩
 |.list false _ _,w,b,o,p,b',o',σ,hp,h,ht=>by obtain⟨rfl,rfl,rfl⟩:=h;cases ht;exact⟨rfl,Nat.le_refl _,Nat.le_refl _⟩
 |.ptr _,w,b,o,p,b',o',σ,hp,h,ht=>by obtain⟨rfl,rfl,rfl⟩:=h;cases ht;exact⟨rfl,Nat.le_refl _,Nat.le_refl _⟩
 |.fn _ _,w,b,o,p,b',o',σ,hp,h,ht=>by obtain⟨rfl,rfl,rfl⟩:=h;cases ht;exact⟨rfl,Nat.le_refl _,Nat.le_refl _⟩
 |.bQ _ _ _,w,b,o,p,b',o',σ,hp,h,ht=>by obtain⟨rfl,rfl,rfl⟩:=h;cases ht;exact⟨rfl,Nat.le_refl _,Nat.le_refl _⟩
 |.ext _ _ _ _,w,b,o,p,b',o',σ,hp,h,ht=>by obtain⟨rfl,rfl,rfl⟩:=h;cases ht;exact⟨rfl,Nat.le_refl _,Nat.le_refl _⟩
theorem qh.lu{F:AV->Bool}{s:St}{a:Act}{w w':World}{H H':FH}{Φ:Nat->qH}(h:qh P C s a w H Φ){id:Nat}{o:Obj}(ho:s.obj id=some o)(x':o.τ.den)(φ:qH)(hb:φ.b=(Φ id).b)
  (ru:φ.ax=(Φ id).ax) (hH:H.le H') (cD:cI H' w') (hnew:∀b c,H' b=some c->C.H0 b=some c\/C.M0 b\/C.w0.heap.size<=b) (cH:jO C.M0 C.w0 w') (hsz:w.heap.size<=w'.heap.size)
  (hw:∀j o',j≠id->s.obj j=some o'->∀b∈(Φ j).fp,w'.heap[b]? = w.heap[b]?/\H' b=none)
  (bh:qR P w' H' ⟨o.row,o.τ,x'⟩ φ) (bl:∀b∈φ.fp,H' b=none/\(C.M0 b\/C.w0.heap.size<=b)/\b<w'.heap.size/\∀j o',j≠id->s.obj j=some o'->b∉(Φ j).fp)
  (hFp:∀q,F (.ptr id q)=false->q.any qu.dW=false\/∀y,qU o.τ o.x q=some y->(∀b off,jV w o (Φ id) q b off->jV w' ⟨o.row,o.τ,x'⟩ φ q b off)/\∃y',qU o.τ x' q=some ⟨y.1,y'⟩) (hFu:∀i p t e l,F (.d_ i p t e l)=true)
  (hFv:∀q,F (.view id q)=false->(o.row&&q.isEmpty)=true\/∀y b off blk t,(o.row&&q.isEmpty)=false->qU o.τ o.x q=some y->jV w o (Φ id) q b off->w.heap[b]? = some (.cells blk t (0,0))->∃y' b' off' aX t',y'.1=y.1/\qU o.τ x' q=some y'/\jV w' ⟨o.row,o.τ,x'⟩ φ q b' off'/\w'.heap[b']? = some (.cells aX t' (0,0))/\ct aX off' y.1.size=ct blk off y.1.size):
  qh P C ((s.af F).setObj id (some ⟨o.row,o.τ,x'⟩)) a w' H' (rX Φ id φ):=by
 have bF:∀j,((s.af F).setObj id (some ⟨o.row,o.τ,x'⟩)).obj j=if id=j then some ⟨o.row,o.τ,x'⟩else s.obj j:=λj=>St.ak _ _ _ _
 have hos:∀j o',j≠id->s.obj j=some o'->((s.af F).setObj id (some ⟨o.row,o.τ,x'⟩)).obj j=some o':=by
  intro j o' hj cu
  rw[bF,if_neg (λe=>hj e.symm)];exact cu
 refine⟨h.defers,h.size,FH.le_trans h.le hH,cD,hnew,cH,?_,?_,?_,?_⟩
 ·intro t av ht
  rw[St.cZ,St.aS]at ht
  obtain⟨jm,h0,rfl⟩:=Option.map_eq_some_iff.1 ht
  refine qi.bK F hH ?_ ?_ ?_ jm _ (h.ts t jm h0)
  ·intro j p v hf hr
   by_cases hj:j=id
   ·subst hj
    obtain⟨o1,y,b,off,h1,h2,h3,h4,h5⟩:=hr
    rw[ho]at h1
    cases h1
    rcases hFp _ hf with hp|hp
    case inr=>
     obtain⟨k1,y',hy'⟩:=hp y h3
     exact⟨⟨o.row,o.τ,x'⟩,⟨y.1,y'⟩,b,off,by rw[bF,if_pos rfl],h2,hy',by rw[qt];exact k1 _ _ h4,h5⟩
    have hrow:o.row=false:=by
     cases hr:o.row with
     |false=>rfl
     |true=>
      exfalso
      obtain⟨row,τ,x⟩:=o
      simp only at hr
      subst hr
      unfold jV at h4
      simp only at h4
      split at h4
      ·simp[qu.dW]at hp
      ·exact h4
    obtain⟨y',hy'⟩:=RM o.τ x' hp (jH _ h3)
    refine⟨⟨o.row,o.τ,x'⟩,⟨y.1,y'⟩,b,off,?_,h2,hy',?_,h5⟩
    ·rw[bF,if_pos rfl]
    ·rw[qt]
     unfold jV at h4 ⊢
     simp only[hrow]at h4 ⊢
     rw[hb]
     exact jT.static _ hp h4
   ·exact qi.dU (λo ho=>hos j o hj ho) (qW _ _ hj) (λo1 uN=>⟨(h.os j o1 uN).1,λb hb=>(hw j o1 hj uN b hb).1⟩) hr
  ·intro j p v hf hr
   by_cases hj:j=id
   ·subst hj
    obtain⟨o1,y,h1,h2,h3⟩:=hr
    rw[ho]at h1
    cases h1
    cases hp:o.row&&p.isEmpty with
    |true=>
     rw[hp]at h3
     simp only[Bool.and_eq_true,List.isEmpty_iff]at hp
     obtain⟨hrow,rfl⟩:=hp
     refine⟨⟨o.row,o.τ,x'⟩,⟨o.τ,x'⟩,by rw[bF,if_pos rfl],qO _ _,?_⟩
     simp only[hrow,List.isEmpty_nil,Bool.and_self,qt,ru]
     exact h3
    |false=>
     rw[hp]at h3
     obtain⟨b,off,blk,t,h4,h5,h6⟩:=h3
     rcases hFv p hf with hq|hq
     ·rw[hp]at hq;cases hq
     ·obtain⟨y',b',off',aX,t',g0,g1,g2,g3,g4⟩:=hq y b off blk t hp h2 h4 h5
      refine⟨⟨o.row,o.τ,x'⟩,y',by rw[bF,if_pos rfl],g1,?_⟩
      simp only[hp]
      refine⟨b',off',aX,t',?_,g3,by rw[g0,g4];exact h6⟩
      rw[qt]
      exact g2
   ·exact qi.cG (λo ho=>hos j o hj ho) (qW _ _ hj) (λo1 uN=>⟨(h.os j o1 uN).1,λb hb=>(hw j o1 hj uN b hb).1⟩) hr
  ·intro j p t e l v hf;rw[hFu]at hf;cases hf
 ·intro j o1 hj
  rw[bF]at hj
  split at hj
  ·rename_i e
   subst e
   cases hj
   rw[qt]
   exact⟨bh,λb hb=>⟨(bl b hb).1,(bl b hb).2.1,(bl b hb).2.2.1⟩⟩
  ·rename_i e
   have e':j≠id:=λe'=>e e'.symm
   rw[qW _ _ e']
   obtain⟨h1,h2⟩:=h.os j o1 hj
   exact⟨h1.frame hH (λb hb=>(hw j o1 e' hj b hb).1),λb hb=>⟨(hw j o1 e' hj b hb).2,(h2 b hb).2.1,Nat.lt_of_lt_of_le (h2 b hb).2.2 hsz⟩⟩
 ·intro i j o1 o2 hij h1 h2 b hb
  rw[bF]at h1 h2
  split at h1
  ·rename_i e
   subst e
   rw[qt]at hb
   rw[if_neg hij]at h2
   rw[qW _ _ (λe'=>hij e'.symm)]
   exact(bl b hb).2.2.2 j o2 (λe'=>hij e'.symm) h2
  ·rename_i e
   rw[qW _ _ (λe'=>e e'.symm)]at hb
   split at h2
   ·rename_i e2
    subst e2
    rw[qt]
    intro hb'
    exact(bl b hb').2.2.2 i o1 hij h1 hb
   ·rename_i e2
    rw[qW _ _ (λe'=>e2 e'.symm)]
    exact h.aN i j o1 o2 hij h1 h2 b hb
 ·refine⟨λj eE hj=>?_,λj=>?_⟩
  ·by_cases e:j=id
   ·subst e;rw[qt,hb,ru];exact h.pins.1 j eE hj
   ·rw[qW _ _ e];exact h.pins.1 j eE hj
  ·by_cases e:j=id
   ·subst e;rw[qt,ru];exact h.pins.2 j
   ·rw[qW _ _ e];exact h.pins.2 j
theorem qh.change{s:St}{a:Act}{w w':World}{H H':FH}{Φ:Nat->qH}(h:qh P C s a w H Φ){id:Nat}{o:Obj}(ho:s.obj id=some o)(x':o.τ.den)(φ:qH)(hb:φ.b=(Φ id).b)
  (ru:φ.ax=(Φ id).ax) (hH:H.le H') (cD:cI H' w') (hnew:∀b c,H' b=some c->C.H0 b=some c\/C.M0 b\/C.w0.heap.size<=b) (cH:jO C.M0 C.w0 w') (hsz:w.heap.size<=w'.heap.size)
  (hw:∀j o',j≠id->s.obj j=some o'->∀b∈(Φ j).fp,w'.heap[b]? = w.heap[b]?/\H' b=none)
  (bh:qR P w' H' ⟨o.row,o.τ,x'⟩ φ) (bl:∀b∈φ.fp,H' b=none/\(C.M0 b\/C.w0.heap.size<=b)/\b<w'.heap.size/\∀j o',j≠id->s.obj j=some o'->b∉(Φ j).fp):
  qh P C ((s.af (AV.bB id o.row)).setObj id (some ⟨o.row,o.τ,x'⟩)) a w' H' (rX Φ id φ):=by
 refine h.lu ho x' φ hb ru hH cD hnew cH hsz hw bh bl (λq hf=>.inl (by simpa[AV.bB]using hf)) (λ_ _ _ _ _=>rfl) (λq hf=>.inl ?_)
 simp only[AV.bB,Nat.beq_refl,Bool.true_and,Bool.not_eq_false']at hf
 exact hf
end
end Go.Vi
namespace Go.Vi
def qnH:Value->Value->Bool
 |.int k n,.int j m=>(k==j)&&(n==m)
 |.bool a,.bool b=>a==b
 |.slice none a b,.slice none c d=>Nat.beq a c&&Nat.beq b d
 |.pointer none,.pointer none=>true
 |.nilFunc,.nilFunc=>true
 |.map none,.map none=>true
 |.nilIface,.nilIface=>true
 |_,_=>false
theorem qoH:∀{u v:Value},qnH u v=true->u=v:=by
 intro u v h
 unfold qnH at h
 split at h
 ·simp at h;rw[h.1,h.2]
 ·simp at h;rw[h]
 ·simp at h;rw[h.1,h.2]
 ·rfl
 ·rfl
 ·rfl
 ·rfl
 ·cases h
def TY:List Value->List Value->Bool
 |[],[]=>true
 |a::l,b::r=>qnH a b&&TY l r
 |_,_=>false
theorem qgm:∀{l r:List Value},TY l r=true->l=r
 |[],[],_=>rfl
 |a::l,b::r,h=>by
  simp only[TY,Bool.and_eq_true]at h
  rw[qoH h.1,qgm h.2]
 |[],_::_,h=>by cases h
 |_::_,[],h=>by cases h
def Ra(τ:Ty):Option Value->Bool
 |some (.agg cs)=>τ.isAgg&&TY cs.toList τ.zeroCells
 |some v=>!τ.isAgg&&TY [v] τ.zeroCells
 |none=>false
theorem zK{τ:Ty}{z:Option Value}(h:Ra τ z=true):z=some (j7 τ τ.zeroCells):=by
 unfold Ra at h
 split at h
 ·simp only[Bool.and_eq_true]at h
  simp only[j7,h.1,cond_true,<-qgm h.2]
 ·simp only[Bool.and_eq_true,Bool.not_eq_true']at h
  simp only[j7,h.1,cond_false,<-qgm h.2,List.headD_cons]
 ·cases h
def iq(P:Program)(t:TypeId)(τ:Ty):Bool:=
 match P.info? t with
 |some i=>Nat.beq i.size τ.size&&Nat.blt 0 τ.size&&Nat.ble i.bytes 512&&Ra τ i.zero
 |none=>false
def Bm(P:Program)(t:TypeId)(fs:List Field):Bool:=!P.stoodInHeld t&&fs.all λf=>f.name != "_"
def cQ(P:Program):Ty->(TypeId->Bool)×(List Field->Nat->Bool)
 |.int k=>
  let f:TypeId->Bool:=λt=>iq P t (.int k)&&(match P.underlying t with|some (.int j)=>j==k|_=>false)
  (f,λl o=>match l with|[x]=>Nat.beq x.offset o&&f x.type|_=>false)
 |.bool=>
  let f:TypeId->Bool:=λt=>iq P t .bool&&(match P.underlying t with|some .bool=>true|_=>false)
  (f,λl o=>match l with|[x]=>Nat.beq x.offset o&&f x.type|_=>false)
 |.list own tid e=>
  let f:TypeId->Bool:=λt=>iq P t (.list own tid e)&&(match P.underlying t with|some (.slice u)=>Nat.beq u tid|_=>false)&&(cQ P e).1 tid
  (f,λl o=>match l with|[x]=>Nat.beq x.offset o&&f x.type|_=>false)
 |.pair a b=>(λ_=>false,λl o=>match l with|x::y::r=>Nat.beq x.offset o&&(cQ P a).1 x.type&&(cQ P b).2 (y::r) (o+a.size)|_=>false)
 |.str s=>
  let f:TypeId->Bool:=λt=>iq P t (.str s)&&(match P.underlying t with|some (.struct fs)=>(cQ P s).2 fs.toList 0&&Bm P t fs.toList|_=>false)
  (f,λl o=>match l with|[x]=>Nat.beq x.offset o&&f x.type|_=>false)
 |.ptr s=>
  let f:TypeId->Bool:=λt=>iq P t (.ptr s)&&(match P.underlying t with|some (.pointer _)=>true|_=>false)
  (f,λl o=>match l with|[x]=>Nat.beq x.offset o&&f x.type|_=>false)
 |.op s=>
  let f:TypeId->Bool:=λt=>iq P t (.op s)&&(match P.underlying t with|some (.pointer _)=>true|_=>false)
  (f,λl o=>match l with|[x]=>Nat.beq x.offset o&&f x.type|_=>false)
 |.arr n e=>
  let f:TypeId->Bool:=λt=>iq P t (.arr n e)&&(match P.underlying t with|some (.array m u)=>Nat.beq m n&&(cQ P e).1 u|_=>false)
  (f,λl o=>match l with|[x]=>Nat.beq x.offset o&&f x.type|_=>false)
 |.fn a r=>
  let f:TypeId->Bool:=λt=>iq P t (.fn a r)&&(match P.underlying t with|some (.func _ _ _)=>true|_=>false)
  (f,λl o=>match l with|[x]=>Nat.beq x.offset o&&f x.type|_=>false)
 |.bQ a b r=>
  let f:TypeId->Bool:=λt=>iq P t (.bQ a b r)&&(match P.underlying t with|some (.func _ _ _)=>true|_=>false)
  (f,λl o=>match l with|[x]=>Nat.beq x.offset o&&f x.type|_=>false)
 |.ext own n i j=>
  let f:TypeId->Bool:=λt=>iq P t (.ext own n i j)&&(match P.underlying t with|some (.map k e)=>Nat.ble n 1&&(Nat.beq k i&&Nat.beq e j)|some (.interface _)=>Nat.ble 2 n&&Nat.ble n 4|some (.slice e)=>Nat.ble 5 n&&Nat.beq e i|_=>false)
  (f,λl o=>match l with|[x]=>Nat.beq x.offset o&&f x.type|_=>false)
def qT(P:Program)(t:TypeId)(τ:Ty):Prop:=(cQ P τ).1 t=true
def nR(P:Program)(s:Ty)(l:List Field)(o:Nat):Prop:=(cQ P s).2 l o=true
section
variable {P:Program}
theorem qT.info{t:TypeId}{τ:Ty}(h:qT P t τ):∃i,P.info? t=some i/\i.size=τ.size/\0<τ.size/\i.bytes<=512/\i.zero=some (j7 τ τ.zeroCells):=by
 have hb:iq P t τ=true:=by
  unfold qT at h
  cases τ<;>simp only[cQ,Bool.and_eq_true,Bool.false_eq_true]at h
  all_goals first|exact h.1|exact h.1.1
 unfold iq at hb
 split at hb
 ·rename_i i hi
  simp only[Bool.and_eq_true]at hb
  obtain⟨⟨⟨h1,h2⟩,h3⟩,h4⟩:=hb
  exact⟨i,hi,Nat.eq_of_beq_eq_true h1,Eq.mp Nat.blt_eq h2,Nat.le_of_ble_eq_true h3,zK h4⟩
 ·cases hb
theorem qT.bT{t:TypeId}{a b:Ty}(h:qT P t (.pair a b)):False:=by simp[qT,cQ]at h
theorem qT.list{t:TypeId}{own:Bool}{tid:TypeId}{e:Ty}(h:qT P t (.list own tid e)):P.underlying t=some (.slice tid)/\qT P tid e:=by
 simp only[qT,cQ,Bool.and_eq_true]at h
 obtain⟨⟨_,h1⟩,h2⟩:=h
 refine⟨?_,h2⟩
 split at h1
 ·rename_i e1;rw[e1,Nat.eq_of_beq_eq_true h1]
 ·cases h1
theorem qT.int{t:TypeId}{k:IntKind}(h:qT P t (.int k)):P.underlying t=some (.int k):=by
 simp only[qT,cQ,Bool.and_eq_true]at h
 obtain⟨_,h1⟩:=h
 split at h1
 ·rename_i e1;rw[e1];simp at h1;rw[h1]
 ·cases h1
theorem qT.zL{t:TypeId}{own:Bool}{n i j:Nat}(h:qT P t (.ext own n i j))(hn:Nat.ble n 1=true):P.underlying t=some (.map i j):=by
 simp only[qT,cQ,Bool.and_eq_true]at h
 obtain⟨_,h1⟩:=h
 split at h1
 ·rename_i e1
  simp only[Bool.and_eq_true]at h1
  rw[e1,Nat.eq_of_beq_eq_true h1.2.1,Nat.eq_of_beq_eq_true h1.2.2]
 ·have:=Nat.le_of_ble_eq_true hn
  rw[Bool.and_eq_true]at h1
  have:=Nat.le_of_ble_eq_true h1.1
  omega
 ·have:=Nat.le_of_ble_eq_true hn
  rw[Bool.and_eq_true]at h1
  have:=Nat.le_of_ble_eq_true h1.1
  omega
 ·cases h1
theorem qT.LH{t:TypeId}{own:Bool}{n i j:Nat}(h:qT P t (.ext own n i j))(hn:Nat.ble 5 n=true):P.underlying t=some (.slice i):=by
 simp only[qT,cQ,Bool.and_eq_true]at h
 obtain⟨_,h1⟩:=h
 have:=Nat.le_of_ble_eq_true hn
 split at h1
 ·rw[Bool.and_eq_true]at h1
  have:=Nat.le_of_ble_eq_true h1.1
  omega
 ·rw[Bool.and_eq_true]at h1
  have:=Nat.le_of_ble_eq_true h1.2
  omega
 ·rename_i e1
  rw[Bool.and_eq_true]at h1
  rw[e1,Nat.eq_of_beq_eq_true h1.2]
 ·cases h1
theorem qT.bool{t:TypeId}(h:qT P t .bool):P.underlying t=some .bool:=by
 simp only[qT,cQ,Bool.and_eq_true]at h
 obtain⟨_,h1⟩:=h
 split at h1
 ·assumption
 ·cases h1
theorem qT.str{t:TypeId}{s:Ty}(h:qT P t (.str s)):∃fs,P.underlying t=some (.struct fs)/\nR P s fs.toList 0:=by
 simp only[qT,cQ,Bool.and_eq_true]at h
 obtain⟨_,h1⟩:=h
 split at h1
 ·rename_i fs e1;exact⟨fs,e1,(Bool.and_eq_true_iff.1 h1).1⟩
 ·cases h1
theorem qT.plain{t:TypeId}{s:Ty}(h:qT P t (.str s)):∃fs,P.underlying t=some (.struct fs)/\nR P s fs.toList 0/\P.stoodInHeld t=false/\∀f∈fs.toList,f.name≠ "_" :=by
 simp only[qT,cQ,Bool.and_eq_true]at h
 obtain⟨_,h1⟩:=h
 split at h1
 ·rename_i fs e1
  obtain⟨h2,h3⟩:=Bool.and_eq_true_iff.1 h1
  unfold Bm at h3
  rw[Bool.and_eq_true,Bool.not_eq_true',List.all_eq_true]at h3
  exact⟨fs,e1,h2,h3.1,λf hf=>by simpa using h3.2 f hf⟩
 ·cases h1
theorem qT.arr{t:TypeId}{n:Nat}{e:Ty}(h:qT P t (.arr n e)):∃u,P.underlying t=some (.array n u)/\qT P u e:=by
 simp only[qT,cQ,Bool.and_eq_true]at h
 obtain⟨_,h1⟩:=h
 split at h1
 ·rename_i m u e1
  simp only[Bool.and_eq_true]at h1
  exact⟨u,by rw[e1,Nat.eq_of_beq_eq_true h1.1],h1.2⟩
 ·cases h1
theorem qT.isAgg{t:TypeId}{τ:Ty}(h:qT P t τ)(w:World):(Go.isAgg t).run P w = .ok τ.isAgg w:=by
 have hu:∃d,P.underlying t=some d/\(match d with|.struct _|.array _ _=>true|_=>false)=τ.isAgg:=by
  cases τ with
  |int k=>exact⟨_,h.int,rfl⟩
  |bool=>exact⟨_,h.bool,rfl⟩
  |list own tid e=>exact⟨_,h.list.1,rfl⟩
  |pair a b=>exact h.bT.elim
  |str s=>obtain⟨fs,h1,_⟩:=h.str;exact⟨_,h1,rfl⟩
  |ptr s=>
   simp only[qT,cQ,Bool.and_eq_true]at h
   obtain⟨_,h1⟩:=h
   split at h1
   ·exact⟨_,‹_›,rfl⟩
   ·cases h1
  |ext own n i j=>
   simp only[qT,cQ,Bool.and_eq_true]at h
   obtain⟨_,h1⟩:=h
   split at h1
   ·exact⟨_,‹_›,rfl⟩
   ·exact⟨_,‹_›,rfl⟩
   ·exact⟨_,‹_›,rfl⟩
   ·cases h1
  |op s=>
   simp only[qT,cQ,Bool.and_eq_true]at h
   obtain⟨_,h1⟩:=h
   split at h1
   ·exact⟨_,‹_›,rfl⟩
   ·cases h1
  |arr n e=>obtain⟨u,h1,_⟩:=h.arr;exact⟨_,h1,rfl⟩
  |fn a r=>
   simp only[qT,cQ,Bool.and_eq_true]at h
   obtain⟨_,h1⟩:=h
   split at h1
   ·exact⟨_,‹_›,rfl⟩
   ·cases h1
  |bQ a b r=>
   simp only[qT,cQ,Bool.and_eq_true]at h
   obtain⟨_,h1⟩:=h
   split at h1
   ·exact⟨_,‹_›,rfl⟩
   ·cases h1
 obtain⟨d,h1,h2⟩:=hu
 simp only[Go.isAgg,Sem.run_bind,run_underlying h1,Result.andThen_ok]
 rw[<-h2]
 cases d<;>rfl
theorem qT.sizeOf{t:TypeId}{τ:Ty}(h:qT P t τ)(w:World):(Go.sizeOf t).run P w = .ok τ.size w:=by
 obtain⟨i,h1,h2,_⟩:=h.info
 simp[Go.sizeOf,typeInfo,h1,h2]
theorem qT.zeroValue{t:TypeId}{τ:Ty}(h:qT P t τ)(w:World):(Go.zeroValue t).run P w = .ok (j7 τ τ.zeroCells) w:=by
 obtain⟨i,h1,_,_,_,h2⟩:=h.info
 simp[Go.zeroValue,typeInfo,h1,h2]
theorem Ty.dr:(τ:Ty)->τ.fz.zeroCells=τ.zeroCells
 |.int _=>rfl
 |.bool=>rfl
 |.list _ _ _=>rfl
 |.pair a b=>by simp[Ty.fz,Ty.zeroCells,Ty.dr a,Ty.dr b]
 |.str t=>Ty.dr t
 |.ptr _=>rfl
 |.op _=>rfl
 |.arr n e=>by simp[Ty.fz,Ty.zeroCells,Ty.dr e]
 |.fn _ _=>rfl
 |.ext _ _ _ _=>rfl
 |.bQ _ _ _=>rfl
theorem Kt(t:TypeId)(τ:Ty):iq P t τ.fz=iq P t τ:=by
 have hz:∀z,Ra τ.fz z=Ra τ z:=by
  intro z
  unfold Ra
  split<;>simp only[Ty.tT,Ty.dr]
 unfold iq
 simp only[Ty.dy,hz]
theorem Rp:(τ:Ty)->cQ P τ.fz=cQ P τ
 |.int _=>rfl
 |.bool=>rfl
 |.list own tid e=>by
  have h:∀t,iq P t (.list false tid e.fz)=iq P t (.list own tid e):=λt=>Kt t (.list own tid e)
  simp only[Ty.fz,cQ,Rp e,h]
 |.pair a b=>by simp only[Ty.fz,cQ,Rp a,Rp b,Ty.dy]
 |.str s=>by
  have h:∀t,iq P t (.str s.fz)=iq P t (.str s):=λt=>Kt t (.str s)
  simp only[Ty.fz,cQ,Rp s,h]
 |.ptr s=>by
  have h:∀t,iq P t (.ptr s.fz)=iq P t (.ptr s):=λt=>Kt t (.ptr s)
  simp only[Ty.fz,cQ,h]
 |.op s=>by
  have h:∀t,iq P t (.ptr s.fz)=iq P t (.op s):=λt=>Kt t (.op s)
  simp only[Ty.fz,cQ,h]
 |.ext own n i j=>by
  have h:∀t,iq P t (.ext false n i j)=iq P t (.ext own n i j):=λt=>Kt t (.ext own n i j)
  simp only[Ty.fz,cQ,h]
 |.arr n e=>by
  have h:∀t,iq P t (.arr n e.fz)=iq P t (.arr n e):=λt=>Kt t (.arr n e)
  simp only[Ty.fz,cQ,Rp e,h]
 |.fn a r=>by
  have h:∀t,iq P t (.fn a.fz r.fz)=iq P t (.fn a r):=λt=>Kt t (.fn a r)
  simp only[Ty.fz,cQ,h]
 |.bQ a b r=>by
  have h:∀t,iq P t (.bQ a.fz b.fz r.fz)=iq P t (.bQ a b r):=λt=>Kt t (.bQ a b r)
  simp only[Ty.fz,cQ,h]
theorem qT.gw{t:TypeId}{τ:Ty}(h:qT P t τ.fz):qT P t τ:=by
 unfold qT at *;rwa[Rp]at h
theorem nR.at:(s:Ty)->∀{l:List Field} {o i:Nat},nR P s l o->uI s i=true->
  ∃f σ,l[i]? = some f/\o<=f.offset/\qT P f.type σ/\kq s (lP s i)=some σ/\(lP s i).any qu.dW=false/\(∀w b q,jT w s b q (lP s i) b (q+(f.offset-o)))/\
   ∀{w H x cs fp},qm P s w H x cs fp->∃y:σ.den,qU s x (lP s i)=some ⟨σ,y⟩/\(∀{R:Type} (k:(σ:Ty)->σ.den->Option R),QZ s x (lP s i) k=k σ y)/\
    ∃pre c post f1 f2 f3,cs=pre++c++post/\fp=f1++f2++f3/\pre.length=f.offset-o/\qm P σ w H y c f2:=by
 have leaf:∀s:Ty,(∀a b,s≠.pair a b)->∀{l:List Field} {o i:Nat},nR P s l o->uI s i=true->
  ∃f σ,l[i]? = some f/\o<=f.offset/\qT P f.type σ/\kq s (lP s i)=some σ/\(lP s i).any qu.dW=false/\(∀w b q,jT w s b q (lP s i) b (q+(f.offset-o)))/\
   ∀{w H x cs fp},qm P s w H x cs fp->∃y:σ.den,qU s x (lP s i)=some ⟨σ,y⟩/\(∀{R:Type} (k:(σ:Ty)->σ.den->Option R),QZ s x (lP s i) k=k σ y)/\
    ∃pre c post f1 f2 f3,cs=pre++c++post/\fp=f1++f2++f3/\pre.length=f.offset-o/\qm P σ w H y c f2:=by
  intro s hs l o i hf hi
  have zA:i=0:=by
   cases s<;>first|exact absurd rfl (hs _ _)|exact Nat.eq_of_beq_eq_true hi
  have hp:lP s i=[]:=by
   cases s<;>first|exact absurd rfl (hs _ _)|rfl
  have hone:∃f,l=[f]/\f.offset=o/\qT P f.type s:=by
   have hf':(cQ P s).2 l o=true:=hf
   match l with
   |[]=>cases s<;>first|exact absurd rfl (hs _ _)|(simp[cQ]at hf')
   |[f]=>
    refine⟨f,rfl,?_,?_⟩
    ·cases s<;>first|exact absurd rfl (hs _ _)|(simp only[cQ,Bool.and_eq_true]at hf';exact Nat.eq_of_beq_eq_true hf'.1)
    ·cases s<;>first|exact absurd rfl (hs _ _)|(simp only[cQ,Bool.and_eq_true]at hf';simp only[qT,cQ,Bool.and_eq_true];exact hf'.2)
   |_::_::_=>cases s<;>first|exact absurd rfl (hs _ _)|(simp[cQ]at hf')
  obtain⟨f,rfl,ho,ht⟩:=hone
  subst zA
  refine⟨f,s,rfl,by omega,ht,by rw[hp,qlA],by rw[hp];rfl,?_,?_⟩
  ·intro w b q
   rw[hp,ho,Nat.sub_self]
   exact kV _ _ _ _
  ·intro w H x cs fp hr
   refine⟨x,by rw[hp,qO],?_,[],cs,[],[],fp,[],by simp,by simp,by simp[ho],hr⟩
   intro R k
   rw[hp]
   cases s<;>first|exact absurd rfl (hs _ _)|rfl
 intro s
 induction s with
 |pair a b iha Nv=>
  intro l o i hf hi
  have hf':(cQ P (.pair a b)).2 l o=true:=hf
  match l with
  |[]=>simp[cQ]at hf'
  |[_]=>simp[cQ]at hf'
  |x::y::r=>
   simp only[cQ,Bool.and_eq_true]at hf'
   obtain⟨⟨h1,h2⟩,h3⟩:=hf'
   have ho:x.offset=o:=Nat.eq_of_beq_eq_true h1
   match i with
   |0=>
    refine⟨x,a,rfl,by omega,h2,qlA a,rfl,?_,?_⟩
    ·intro w b' q
     rw[ho,Nat.sub_self]
     exact kV _ a _ _
    ·rintro w H z cs fp ⟨c1,c2,f1,f2,rfl,rfl,r1,r2⟩
     refine⟨z.1,qO a z.1,λk=>?_,[],c1,c2,[],f1,f2,by simp,by simp,by simp[ho],r1⟩
     show QZ a z.1 [] k=_
     cases a<;>rfl
   |i+1=>
    obtain⟨f,σ,q1,q2,q3,q4,q5,q6,q7⟩:=Nv (l:=y::r) (o:=o+a.size) (i:=i) h3 hi
    refine⟨f,σ,q1,by omega,q3,q4,?_,?_,?_⟩
    ·show(qu.R::lP b i).any qu.dW=false
     simpa[qu.dW]using q5
    ·intro w b' q
     have:=q6 w b' (q+a.size)
     rw[show q+(f.offset-o)=q+a.size+(f.offset-(o+a.size)) by omega]
     exact this
    ·rintro w H z cs fp ⟨c1,c2,f1,f2,rfl,rfl,r1,r2⟩
     obtain⟨y',g1,g2,pre,c,post,k1,k2,k3,e1,e2,e3,e4⟩:=q7 r2
     refine⟨y',g1,λk=>g2 k,c1++pre,c,post,f1++k1,k2,k3,by rw[e1];simp,by rw[e2];simp,?_,e4⟩
     rw[List.length_append,e3,qm.length a r1];omega
 |_=>exact leaf _ (by intro a b h;cases h)
theorem Bc{τ:Ty}{cs:List Value}(hn:∀a b,τ≠.pair a b)(hl:cs.length=τ.size)(h1:∀v∈cs,v.oneCell'=true):(j7 τ cs).cells.toList=cs:=by
 unfold j7
 cases ha:τ.isAgg with
 |true=>rfl
 |false=>
  rw[Ty.size_pos τ ha hn]at hl
  match cs,hl with
  |[v],_=>
   have:=h1 v (by simp)
   cases v<;>first|rfl|simp[Value.oneCell']at this
theorem qhH{t:TypeId}{τ:Ty}(h:qT P t τ){w:World}{b:Nat}{blk:Array Value}{bt:TypeId}{f:Nat×Nat}{pre c post:List Value}(hb:w.heap[b]? = some (.cells blk bt f))
  (hs:blk.toList=pre++c++post) (hc:c.length=τ.size):(loadVar t ⟨b,pre.length,none⟩).run P w = .ok (j7 τ c) w:=by
 have hcell:∀j v,c[j]? = some v->w.cell? ((⟨b,pre.length,none⟩:Addr).add j)=some v:=by
  intro j v hj
  have:(⟨b,pre.length,none⟩:Addr).add j=⟨b,pre.length+j,none⟩:=by unfold Addr.add;split<;>simp_all
  rw[this,qw hb,<-Array.getElem?_toList,hs,List.append_assoc,List.getElem?_append_right (by omega),Nat.add_sub_cancel_left,List.getElem?_append_left (List.getElem?_eq_some_iff.1 hj).1]
  exact hj
 unfold loadVar
 simp only[Sem.run_bind,h.isAgg,Result.andThen_ok]
 cases ha:τ.isAgg with
 |true=>
  have hl:=run_loadCells_list (P:=P) w ⟨b,pre.length,none⟩ c hcell
  rw[hc]at hl
  simp[h.sizeOf,hl,j7,ha]
 |false=>
  have hn:∀x y,τ≠.pair x y:=by rintro x y rfl;exact h.bT
  rw[Ty.size_pos τ ha hn]at hc
  match c,hc with
  |[v],_=>
   have:=hcell 0 v rfl
   have e:(⟨b,pre.length,none⟩:Addr).add 0=⟨b,pre.length,none⟩:=by simp[Addr.add]
   rw[e]at this
   simp[j7,ha,this]
theorem qgu{t:TypeId}{τ:Ty}(h:qT P t τ){w:World}{b:Nat}{blk:Array Value}{bt:TypeId}{pre c post c':List Value}(hb:w.heap[b]? = some (.cells blk bt (0,0)))
  (hs:blk.toList=pre++c++post) (hc:c.length=τ.size) (hc':c'.length=τ.size) (h1:∀v∈c',v.oneCell'=true):
  (storeVar t ⟨b,pre.length,none⟩ (j7 τ c')).run P w = .ok () (w.setRow b (pre++c'++post).toArray):=by
 have hn:∀x y,τ≠.pair x y:=by rintro x y rfl;exact h.bT
 have hcells:=Bc hn hc' h1
 have hsz:(j7 τ c').cells.size=τ.size:=by rw[<-Array.length_toList,hcells,hc']
 have hlen:blk.size=pre.length+c.length+post.length:=by rw[<-Array.length_toList,hs];simp[Nat.add_assoc]
 unfold storeVar
 simp only[Sem.run_bind,h.sizeOf,Result.andThen_ok,hsz,ne_eq,not_true_eq_false,if_false,hcells]
 have:=run_storeCells_at P b pre.length bt c' 0 blk w hb (by rw[hlen];omega) h1
 simp only[Nat.add_zero]at this
 simp only[this]
 congr 3
 rw[hs,List.append_assoc,List.append_assoc,List.take_left,List.append_assoc,<-List.drop_drop,List.drop_left,hc',<-hc,List.drop_left]
end
end Go.Vi
namespace Go.Vi
def dl{α β:Type}(R:α->β->Prop):List α->List β->Prop
 |[],[]=>True
 |a::l,b::r=>R a b/\dl R l r
 |_,_=>False
def qc(l:List qH):List Nat:=l.flatMap (·.fp)
def oD:List Value->Value
 |[v]=>v
 |vs=>.tuple vs.toArray
def jU(P:Program)(w:World)(H:FH):(ps:List j3)->aI ps->List Value->List qH->Prop
 |[],_,vs,ai=>vs=[]/\ai=[]
 |.v τ::ps,d,vs,ai=>∃v vs' φ ag,vs=v::vs'/\ai=φ::ag/\τ.ay=true/\φ.fp=[]/\(∃cs,v=j7 τ cs/\qm P τ w H d.1 cs [])/\jU P w H ps d.2 vs' ag
 |.r τ::ps,d,vs,ai=>∃v vs' φ ag,vs=v::vs'/\ai=φ::ag/\τ.ay=true/\φ.fp=[]/\(∃b o blk,v = .pointer (some ⟨b,o,none⟩)/\H b=some (.cells blk)/\qm P τ w H d.1 (ct blk o τ.size) [])/\jU P w H ps d.2 vs' ag
 |.c f::ps,d,vs,ai=>∃v vs' φ ag,vs=v::vs'/\ai=φ::ag/\True/\φ.fp=[]/\v = .func (.func f) #[] #[]/\jU P w H ps d.2 vs' ag
 |.m τ::ps,d,vs,ai=>∃v vs' φ ag,vs=v::vs'/\ai=φ::ag/\v = .pointer (some ⟨φ.b,0,none⟩)/\qR P w H ⟨false,τ,d.1⟩ φ/\jU P w H ps d.2 vs' ag
 |.gm τ::ps,d,vs,ai=>∃v vs' φ ag,vs=v::vs'/\ai=φ::ag/\v = .pointer (some ⟨φ.b,0,none⟩)/\qR P w H ⟨false,τ,d.1⟩ φ/\jU P w H ps d.2 vs' ag
 |.mr tid e::ps,d,vs,ai=>∃v vs' φ ag,vs=v::vs'/\ai=φ::ag/\v=φ.ax/\qR P w H ⟨true,.list true tid e,d.1⟩ φ/\jU P w H ps d.2 vs' ag
 |.t tid e::ps,d,vs,ai=>∃v vs' φ ag,vs=v::vs'/\ai=φ::ag/\v=φ.ax/\qR P w H ⟨true,.list true tid e,d.1⟩ φ/\jU P w H ps d.2 vs' ag
 |.cm f τ::ps,d,vs,ai=>∃v vs' φ ag,vs=v::vs'/\ai=φ::ag/\v = .func (.func f) #[] #[.pointer (some ⟨φ.b,0,none⟩)]/\qR P w H ⟨false,τ,d.1⟩ φ/\jU P w H ps d.2 vs' ag
def jR(P:Program)(w:World)(H:FH):(ps:List j3)->aV ps->List Value->List qH->Prop
 |[],_,vs,ai=>vs=[]/\ai=[]
 |.v _::ps,d,vs,ai=>∃v vs' φ ag,vs=v::vs'/\ai=φ::ag/\φ.fp=[]/\jR P w H ps d vs' ag
 |.r _::ps,d,vs,ai=>∃v vs' φ ag,vs=v::vs'/\ai=φ::ag/\φ.fp=[]/\jR P w H ps d vs' ag
 |.c _::ps,d,vs,ai=>∃v vs' φ ag,vs=v::vs'/\ai=φ::ag/\φ.fp=[]/\jR P w H ps d vs' ag
 |.t _ _::ps,d,vs,ai=>∃v vs' φ ag,vs=v::vs'/\ai=φ::ag/\φ.fp=[]/\jR P w H ps d vs' ag
 |.gm _::ps,d,vs,ai=>∃v vs' φ ag,vs=v::vs'/\ai=φ::ag/\φ.fp=[]/\jR P w H ps d vs' ag
 |.cm f τ::ps,d,vs,ai=>∃v vs' φ ag,vs=v::vs'/\ai=φ::ag/\v = .func (.func f) #[] #[.pointer (some ⟨φ.b,0,none⟩)]/\qR P w H ⟨false,τ,d.1⟩ φ/\jR P w H ps d.2 vs' ag
 |.m τ::ps,d,vs,ai=>∃v vs' φ ag,vs=v::vs'/\ai=φ::ag/\v = .pointer (some ⟨φ.b,0,none⟩)/\qR P w H ⟨false,τ,d.1⟩ φ/\jR P w H ps d.2 vs' ag
 |.mr tid e::ps,d,vs,ai=>∃v vs' φ ag,vs=v::vs'/\ai=φ::ag/\v=φ.ax/\qR P w H ⟨true,.list true tid e,d.1⟩ φ/\jR P w H ps d.2 vs' ag
def gv(P:Program)(w:World)(H:FH):(rs:List fk)->bH rs->List Value->List qH->Prop
 |[],_,vs,ai=>vs=[]/\ai=[]
 |.v τ::rs,d,vs,ai=>∃v vs' φ ag,vs=v::vs'/\ai=φ::ag/\τ.ay=true/\φ.fp=[]/\(∃cs,v=j7 τ cs/\qm P τ w H d.1 cs [])/\gv P w H rs d.2 vs' ag
 |.own tid e::rs,d,vs,ai=>∃v vs' φ ag,vs=v::vs'/\ai=φ::ag/\v=φ.ax/\qR P w H ⟨true,.list true tid e,d.1⟩ φ/\gv P w H rs d.2 vs' ag
 |.sure nn tid e::rs,d,vs,ai=>∃v vs' φ ag,vs=v::vs'/\ai=φ::ag/\v=φ.ax/\qR P w H ⟨true,.list true tid e,d.1⟩ φ/\An nn φ.ax/\gv P w H rs d.2 vs' ag
 |.ir τ::rs,d,vs,ai=>∃v vs' φ ag,vs=v::vs'/\ai=φ::ag/\v=φ.ax/\qR P w H ⟨true,τ,d.1⟩ φ/\gv P w H rs d.2 vs' ag
 |.iu τ::rs,d,vs,ai=>∃v vs' φ ag,vs=v::vs'/\ai=φ::ag/\v = .pointer (some ⟨φ.b,0,none⟩)/\qR P w H ⟨false,τ,d.1⟩ φ/\gv P w H rs d.2 vs' ag
def TG(P:Program)(f:Nat)(p:qS):Prop:=∀(d:aI p.ps) (y:bH p.rs×aV p.ps),p.g d=some y->∀(w:World) (H:FH) (vs:List Value) (ai:List qH),cI H w->jU P w H p.ps d vs ai->
 (qc ai).Nodup->(∀b∈qc ai,H b=none/\b<w.heap.size)->
 Calls P f vs.toArray w λe w'=>∃us H' ag aJ,e = .returned (oD us)/\jO (· ∈qc ai) w w'/\H.le H'/\cI H' w'/\(∀b c,H' b=some c->H b=some c\/b∈qc ai\/w.heap.size<=b)/\
  gv P w' H' p.rs y.1 us aJ/\jR P w' H' p.ps y.2 vs ag/\(qc (aJ++ag)).Nodup/\∀b∈qc (aJ++ag),H' b=none/\(b∈qc ai\/w.heap.size<=b)/\b<w'.heap.size
def Hi(P:Program)(f:Nat)(m:zb):Prop:=∀(d:aI m.p.ps) (y:bH m.p.rs×aV m.p.ps),m.p.g d=some y->∀(w:World) (H:FH) (vs:List Value) (ai:List qH),cI H w->jU P w H m.p.ps d vs ai->
 (qc ai).Nodup->(∀b∈qc ai,H b=none/\b<w.heap.size)->
 Calls P f vs.toArray w λe w'=>∃us H' ag aJ,e = .returned (.func (.func m.f) #[] us.toArray)/\jO (· ∈qc ai) w w'/\H.le H'/\cI H' w'/\(∀b c,H' b=some c->H b=some c\/b∈qc ai\/w.heap.size<=b)/\
  gv P w' H' m.p.rs y.1 us aJ/\jR P w' H' m.p.ps y.2 vs ag/\(qc (aJ++ag)).Nodup/\∀b∈qc (aJ++ag),H' b=none/\(b∈qc ai\/w.heap.size<=b)/\b<w'.heap.size
def DX(w:World)(τ:Ty)(b:Nat)(p:List qu)(u:Value):Prop:=∃σ b' off blk t,kq τ p=some σ/\jT w τ b 0 p b' off/\w.heap[b']? = some (.cells blk t (0,0))/\u=j7 σ (ct blk off σ.size)
def qls(P:Program)(f:Nat)(kp:Rb):Prop:=∀(d:aI kp.vn.ps) (y:bH kp.vn.rs×aV kp.vn.ps),kp.vn.g d=some y->∀(w:World) (H:FH) (vs:List Value) (ai:List qH),cI H w->jU P w H kp.vn.ps d vs ai->
 (qc ai).Nodup->(∀b∈qc ai,H b=none/\b<w.heap.size)->
 Calls P f vs.toArray w λe w'=>(∃us H' ag aJ,e = .returned (oD us)/\jO (· ∈qc ai) w w'/\H.le H'/\cI H' w'/\(∀b c,H' b=some c->H b=some c\/b∈qc ai\/w.heap.size<=b)/\
  gv P w' H' kp.vn.rs y.1 us aJ/\jR P w' H' kp.vn.ps y.2 vs ag/\(qc (aJ++ag)).Nodup/\∀b∈qc (aJ++ag),H' b=none/\(b∈qc ai\/w.heap.size<=b)/\b<w'.heap.size)/\
  ∀φ∈ai,∀u,DX w kp.τ φ.b kp.q u->DX w' kp.τ φ.b kp.q u
def DN(P:Program)(f:Nat)(mp:xl):Prop:=∀(d:aI mp.rest) (x x':mp.τ.den),mp.g d x=some x'->∀(w:World) (H:FH) (vs:List Value) (ai:List qH) (φ:qH),cI H w->jU P w H mp.rest d vs ai->qc ai=[]->qR P w H ⟨true,mp.τ,x⟩ φ->
 (∀b∈φ.fp,H b=none/\b<w.heap.size)->
 Calls P f (vs.take mp.pos++φ.ax::vs.drop mp.pos).toArray w λe w'=>∃H' aC,e = .returned (oD [])/\jO (· ∈φ.fp) w w'/\H.le H'/\cI H' w'/\(∀b c,H' b=some c->H b=some c\/b∈φ.fp\/w.heap.size<=b)/\
  qR P w' H' ⟨true,mp.τ,x'⟩ ⟨φ.b,φ.ax,aC⟩/\∀b∈aC,H' b=none/\(b∈φ.fp\/w.heap.size<=b)/\b<w'.heap.size
def DO(P:Program)(sp:Lw):Prop:=∀(d:aI sp.p.ps) (y:bH sp.p.rs×aV sp.p.ps),sp.p.g d=some y->∀(w:World) (H:FH) (vs:List Value) (ai:List qH),cI H w->jU P w H sp.p.ps d vs ai->
 (qc ai).Nodup->(∀b∈qc ai,H b=none/\b<w.heap.size)->∀b,H b=some (.cells #[.func (.func sp.f) #[] (vs.drop sp.n++[Value.pointer (some ⟨b,0,none⟩)]).toArray])->
 Calls P sp.f (vs++[Value.pointer (some ⟨b,0,none⟩)]).toArray w λe w'=>∃us H' ag aJ,e = .returned (oD us)/\jO (· ∈qc ai) w w'/\H.le H'/\cI H' w'/\(∀b c,H' b=some c->H b=some c\/b∈qc ai\/w.heap.size<=b)/\
  gv P w' H' sp.p.rs y.1 us aJ/\jR P w' H' sp.p.ps y.2 vs ag/\(qc (aJ++ag)).Nodup/\∀b∈qc (aJ++ag),H' b=none/\(b∈qc ai\/w.heap.size<=b)/\b<w'.heap.size
def YT(P:Program)(T:Nat):Bool:=
 match P.underlying T with
 |some (.func _ _ _)=>true
 |_=>false
def DP(P:Program)(dst:Nat)(il:Inl):Prop:=∀d y,il.g d=some y->∀(C:cM) (a:Act) (w:World),(∀id,id<10000000->C.gQ id=none)->dst<C.nt->dS P C (il.ins.fill d) a w->
 ∃f vs us,a.eval il.vC = .func (.func f) vs us/\jD P f/\Calls P f (vs++(il.ops.map a.eval).toArray++us) w λe w'=>∃v,e = .returned v/\dS P C (il.outs.fill y) (a.put (some dst) v) w'
structure nv (P:Program) (i:Nat):Prop where
 keyed:Maps.Keyed P i
 key:∀q:XK,lN q.1=true->lN q.2=true->∃kl,keyOf P i (jS q)=some kl
structure yG (P:Program) (q:XQ):Prop where
 wrap:P.concrete q.T=true/\P.concrete q.et=true
 kS:∀(w:World) (v:Value) (xT:TypeId),(Instr.typeAssert (.iface q.et v) xT q.et false).run P w = .ok v w
 len:∀(w:World) (l:List (XK×XK)) (v:Value) (fp:List Nat),ic q.T q.et w l [v] fp->∃f args,(callMethod v "Len" #[]).run P w = .ok (.enter f args) w/\Calls P f args w λe w'=>e = .returned (.int .i64 (l.length:Int))/\jO jA w w'
 eO:jD P q.OJ/\jD P q.Dd
 pop:∀(w:World) (l:List (XK×XK)) (v:Value) (fp:List Nat) (x:XK×XK) (l':List (XK×XK)),ic q.T q.et w l [v] fp->fp.Nodup->q.pop l=some (x,l')->
  Calls P q.OJ #[v] w λe w'=>e = .returned (.iface q.et (uD x))/\∃aC,jO (· ∈fp) w w'/\ic q.T q.et w' l' [v] aC/\aC.Nodup/\∀b∈aC,b∈fp\/w.heap.size<=b
 push:∀(w:World) (l:List (XK×XK)) (v:Value) (fp:List Nat) (x:XK×XK) (l':List (XK×XK)),ic q.T q.et w l [v] fp->fp.Nodup->q.push l x=some l'->
  Calls P q.Dd #[v,.iface q.et (uD x)] w λe w'=>e = .returned (.tuple #[])/\∃aC,jO (· ∈fp) w w'/\ic q.T q.et w' l' [v] aC/\aC.Nodup/\∀b∈aC,b∈fp\/w.heap.size<=b
structure DL (P:Program) (q:XS):Prop where
 eO:jD P q.f
 sort:∀(x:q.τ.den) (l l':List q.e.den),q.sort x l=some l'->∀(w:World) (H:FH) (b o:Nat) (blk:Array Value) (φ:qH),cI H w->H b=some (.cells blk)->qm P q.τ w H x (ct blk o q.τ.size) []->qR P w H ⟨true,.list true q.tid q.e,l⟩ φ->
  φ.fp.Nodup->(∀c∈φ.fp,H c=none/\c<w.heap.size)->Calls P q.f #[φ.ax,.func (.func q.g) #[] #[.pointer (some ⟨b,o,none⟩)]] w λe w'=>e = .returned (.tuple #[])/\jO (· ∈φ.fp) w w'/\qR P w' H ⟨true,.list true q.tid q.e,l'⟩ φ
structure qx (P:Program) (aa:jB):Prop where
 ty:∀t τ,lk aa.ty t=some τ->qT P t τ/\τ.ay=true
 b_:∀f p,lk aa.b_ f=some p->jD P f/\TG P f p
 vI:∀f p,lk aa.vI f=some p->jD P f/\TG P f p
 small:aa.nt<=2000
 iz:∀f m,lk aa.iz f=some m->jD P f/\Hi P f m
 maps:∀T kt vt,lk aa.maps T=some (kt,vt)->P.underlying T=some (.map kt vt)/\qT P kt (.int .i64)/\qT P vt (.int .i64)
 keeps:∀f kp,lk aa.keeps f=some kp->jD P f/\qls P f kp
 Sa:∀f mp,lk aa.Sa f=some mp->jD P f/\DN P f mp
 self:∀sp,aa.self=some sp->jD P sp.f/\DO P sp/\YT P sp.T=true
 inl:∀d il,lk aa.inl d=some il->DP P d il
 keys:∀i,j4 i aa.iM=true->nv P i
 JU:∀q,aa.sx=some q->yG P q
 Ti:∀q,aa.wh=some q->DL P q
structure qD (C:cM) (aa:jB):Prop where
 nt:C.nt=aa.nt
 gQ:∀id,id<10000000->C.gQ id=none
def Quiet(P:Program)(C:cM)(o:Oper)(a:Act)(w:World)(s':St):Prop:=
 ∃v,(∀w',jO jA w w'->Oper.quietAt P o a (jO jA w) w' v)/\dS P C s' (a.put o.dst v) w
def fG(P:Program)(C:cM)(o:Oper)(a:Act)(w:World)(s':St):Prop:=
 ∃v,(∀w',jO jA w w'->(execOp a.eval o).run P w' = .ok (.value v) w')/\dS P C s' (a.put o.dst v) w
def ew(P:Program)(C:cM)(o:Oper)(a:Act)(w:World)(s':St):Prop:=
 match(execOp a.eval o).run P w with
 |.ok (.value v) w'=>dS P C s' (a.put o.dst v) w'
 |.ok .skip w'=>dS P C s' (a.put o.dst undef) w'
 |.ok (.enter f args) w'=>Calls P f args w' λe w''=>∃v,e = .returned v/\dS P C s' (a.put o.dst v) w''
 |_=>False
section
variable {P:Program} {C:cM}
theorem Quiet.Oj{o:Oper}{a:Act}{w:World}{s':St}(h:Quiet P C o a w s'):ew P C o a w s':=by
 obtain⟨v,h1,h2⟩:=h
 have:=h1 w (jO.refl _ _)
 unfold Oper.quietAt Oper.quietUpon at this
 unfold ew
 split at this
 ·rename_i u w' e;rw[e];obtain⟨rfl,rfl⟩:=this;exact h2
 ·rename_i w' e;rw[e];obtain⟨rfl,rfl⟩:=this;exact h2
 ·rename_i f args w' e
  rw[e]
  obtain⟨rfl,hc⟩:=this
  exact hc.mono λe w'' ⟨he,hm⟩=>⟨v,he,h2.grow hm⟩
 ·exact this.elim
theorem fG.quiet{o:Oper}{a:Act}{w:World}{s':St}(h:fG P C o a w s'):Quiet P C o a w s':=by
 obtain⟨v,hrun,h⟩:=h
 refine⟨v,λw' hw=>?_,h⟩
 unfold Oper.quietAt
 rw[hrun w' hw]
 exact⟨rfl,rfl⟩
theorem MP{o:Oper}{a:Act}{w:World}{s':St}{v:Value}(hrun:∀w',jO jA w w'->(execOp a.eval o).run P w' = .ok (.value v) w')(h:dS P C s' (a.put o.dst v) w):fG P C o a w s':=
 ⟨v,hrun,h⟩
theorem Us{w w':World}(hm:jO jA w w'){b:Nat}{o:Go.Obj}(h:w.heap[b]? = some o):w'.heap[b]? = some o:=by
 rw[hm.block b (Array.getElem?_eq_some_iff.1 h).1 (λh=>h)];exact h
theorem qnG{w:World}{H:FH}{Φ:Nat->qH}{os:Nat->Option Obj}{τ:Option Ty}(lg:∀t,τ=some t->t.ay=true){v:Value}{av:AV}(h:TZ τ v=some av):qi P C w H Φ os av v:=by
 unfold TZ at h
 split at h
 ·cases h;exact⟨rfl,_,rfl,rfl,rfl⟩
 ·cases h;exact⟨rfl,_,rfl,rfl,rfl⟩
 ·split at h
  ·rename_i tid e
   cases h
   have:=lg _ rfl
   simp only[Ty.ay,Bool.and_eq_true]at this
   exact⟨by simp[Ty.ay,this.2],_,rfl,rfl,none,0,rfl,Nat.le_refl _,.inl rfl⟩
  ·cases h
 ·split at h
  ·cases h;exact⟨lg _ rfl,[.pointer none],rfl,rfl,rfl⟩
  ·cases h
 ·cases h;trivial
 ·cases h;trivial
 ·cases h;trivial
 ·cases h
theorem ql{s:St}{a:Act}{w:World}{H:FH}{Φ:Nat->qH}(hs:qh P C s a w H Φ){τ:Option Ty}(lg:∀t,τ=some t->t.ay=true){x:Operand}{av:AV}(h:qQ s τ x=some av):
  qi P C w H Φ s.obj av (a.eval x):=by
 cases x with
 |tmp t=>exact hs.ts t av h
 |const v=>exact qnG lg h
 |func f=>cases h;exact⟨#[],#[],rfl,rfl,rfl⟩
 |global g=>cases h
theorem jY{s:St}{a:Act}{w:World}{H:FH}{Φ:Nat->qH}(hs:qh P C s a w H Φ){τ:Nat->Option Ty}(lg:∀i t,τ i=some t->t.ay=true):
  ∀{l:List Operand} {i:Nat} {oT:List AV},zg s τ l i=some oT->dl (λav x=>qi P C w H Φ s.obj av (a.eval x)) oT l
 |[],_,_,h=>by cases h;trivial
 |x::r,i,oT,h=>by
  unfold zg at h
  split at h
  ·cases h;exact⟨ql hs (lg i) ‹_›,jY hs lg ‹_›⟩
  ·cases h
theorem qy:∀t:Ty,(none:Option Ty)=some t->t.ay=true:=by intro t h;cases h
theorem qx.fz{aa:jB}(h:qx P aa)(t:Nat):∀τ,lk aa.ty t=some τ->τ.ay=true:=λτ e=>(h.ty t τ e).2
theorem qi.int{w:World}{H:FH}{Φ os}{k:IntKind}{n:Int}{v:Value}(h:qi P C w H Φ os (.val (.int k) n) v):v = .int k n:=by
 obtain⟨_,cs,rfl,rfl,_⟩:=h;rfl
theorem qi.bool{w:World}{H:FH}{Φ os}{b:Bool}{v:Value}(h:qi P C w H Φ os (.val .bool b) v):v = .bool b:=by
 obtain⟨_,cs,rfl,rfl,_⟩:=h;rfl
theorem qi.bc(w:World)(H:FH)(Φ os)(k:IntKind)(n:Int):qi P C w H Φ os (.val (.int k) n) (.int k n):=⟨rfl,[.int k n],rfl,rfl,rfl⟩
theorem qi.bC(w:World)(H:FH)(Φ os)(b:Bool):qi P C w H Φ os (.val .bool b) (.bool b):=⟨rfl,[.bool b],rfl,rfl,rfl⟩
variable {aa:jB}
theorem qr{s:St}{a:Act}{w:World}{H:FH}{Φ:Nat->qH}{o:Oper}(hs:qh P C s a w H Φ)(hC:qD C aa)(hd:qK aa.nt o.dst=true){av:AV}{v:Value}(hv:qi P C w H Φ s.obj av v)
  (hrun:∀w',jO jA w w'->(execOp a.eval o).run P w' = .ok (.value v) w'):fG P C o a w (s.ah o.dst av):=
 MP hrun ⟨H,Φ,hs.ah (by rw[hC.nt];exact hd) hv⟩
variable {R:Type} {r:R} {s:St} {a:Act} {w:World} {H:FH} {Φ:Nat->qH} {dst:Option Nat} {ty:TypeId} {pos:String} {after:Array Edge} {guard:Option (Nat×Bool)} {k:St->Option R}
theorem HW(ae:qx P aa)(hC:qD C aa){x:Operand}(hs:qh P C s a w H Φ)(hd:qK aa.nt dst=true)(h:qM aa ⟨dst,.move x,ty,pos,after,guard⟩ s k=some r):
  ∃s',k s'=some r/\fG P C ⟨dst,.move x,ty,pos,after,guard⟩ a w s':=by
 simp only[qM]at h
 split at h
 ·rename_i av he
  exact⟨_,h,qr hs hC hd (ql hs (ae.fz ty) he) (λw' _=>rfl)⟩
 ·cases h
theorem HU(ae:qx P aa)(hC:qD C aa){c x y:Operand}(hs:qh P C s a w H Φ)(hd:qK aa.nt dst=true)(h:qM aa ⟨dst,.pick c x y,ty,pos,after,guard⟩ s k=some r):
  ∃s',k s'=some r/\fG P C ⟨dst,.pick c x y,ty,pos,after,guard⟩ a w s':=by
 simp only[qM]at h
 split at h
 ·rename_i b av bv h1 h2 h3
  have hb:=(ql hs qy h1).bool
  have r2:=ql hs (ae.fz ty) h2
  have r3:=ql hs (ae.fz ty) h3
  cases b with
  |true=>exact⟨_,h,qr hs hC hd r2 (λw' _=>by simp[execOp,hb,asBool])⟩
  |false=>exact⟨_,h,qr hs hC hd r3 (λw' _=>by simp[execOp,hb,asBool])⟩
 ·cases h
theorem HR(_hcfg:qx P aa)(hC:qD C aa){op:UnOp}{T:TypeId}{x:Operand}(hs:qh P C s a w H Φ)(hd:qK aa.nt dst=true)(h:qM aa ⟨dst,.unOp op T x,ty,pos,after,guard⟩ s k=some r):
  ∃s',k s'=some r/\fG P C ⟨dst,.unOp op T x,ty,pos,after,guard⟩ a w s':=by
 simp only[qM]at h
 split at h
 ·rename_i av he
  have hr:=ql hs qy he
  unfold unK at h
  split at h
  ·have hv:=hr.bool
   exact⟨_,h,qr hs hC hd (qi.bC w H Φ s.obj _) (λw' _=>by simp[execOp,hv,Op.unary])⟩
  ·have hv:=hr.int
   exact⟨_,h,qr hs hC hd (qi.bc w H Φ s.obj _ _) (λw' _=>by simp[execOp,hv,Op.unary,Op.intArith])⟩
  ·cases h
 ·cases h
theorem qnb(ae:qx P aa)(hC:qD C aa){src dt:TypeId}{x:Operand}(hs:qh P C s a w H Φ)(hd:qK aa.nt dst=true)(h:qM aa ⟨dst,.convert src dt x,ty,pos,after,guard⟩ s k=some r):
  ∃s',k s'=some r/\fG P C ⟨dst,.convert src dt x,ty,pos,after,guard⟩ a w s':=by
 simp only[qM]at h
 split at h
 case h_2=>cases h
 rename_i k1 j k2 n h1 h2 h3
 have v:=(ql hs qy h3).int
 have e1:=(ae.ty src _ h1).1.int
 have e2:=(ae.ty dt _ h2).1.int
 have hc:∀w':World,(convert src dt (.int k2 n)).run P w' = .ok (.int j (j.wrap n)) w':=λw'=>by simp[convert,run_underlying e1,run_underlying e2,Conv.intToInt]
 exact⟨_,h,qr hs hC hd (qi.bc w H Φ s.obj _ _) (λw' _=>by simp[execOp,v,hc])⟩
theorem qjB{k:IntKind}{w:World}{H:FH}:∀{l:List Int} {cs:List Value} {fp:List Nat},qd (qm P (.int k) w H) l cs fp->cs=l.map (Value.int k)
 |[],_,_,h=>h.1
 |_::_,_,_,⟨_,_,_,_,e1,_,h1,h2⟩=>by rw[e1,h1.1,qjB h2];rfl
theorem qoG{u:TypeId}{k:IntKind}(h:qT P u (.int k)):∃i,P.info? u=some i/\P.cellsOf u=1:=by
 obtain⟨i,hi,hs,_⟩:=h.info
 exact⟨i,hi,by simp[Program.cellsOf,hi,hs,Ty.size]⟩
theorem qj4{u:TypeId}{k:IntKind}(w:World)(d:Nat)(h:qT P u (.int k))(a b:List Int):∀(is:List Nat),(∀i∈is,i<a.length/\i<b.length)->
  (Op.eqItems (d+1) u 1 (a.map (Value.int k)).toArray (b.map (Value.int k)).toArray is).run P w = .ok (is.all λi=>a.getD i 0==b.getD i 0) w
 |[],_=>by simp[Op.eqItems]
 |i::is,hi=>by
  obtain⟨ha,hb⟩:=hi i List.mem_cons_self
  have hp:P.plainKey u=true:=by simp[Program.plainKey,h.int]
  have pa:(part u (a.map (Value.int k)).toArray (i*1)).run P w = .ok (.int k (a.getD i 0)) w:=run_part_plain w hp (by simp[ha])
  have pb:(part u (b.map (Value.int k)).toArray (i*1)).run P w = .ok (.int k (b.getD i 0)) w:=run_part_plain w hp (by simp[hb])
  have ih:=qj4 w d h a b is λj hj=>hi j (List.mem_cons_of_mem _ hj)
  have pe:=run_equalIn_int (P:=P) w d u k k (a.getD i 0) (b.getD i 0) h.int
  simp only[Op.eqItems,Sem.run_bind,pa,pb,pe,Result.andThen_ok,List.all_cons]
  cases hc:a.getD i 0==b.getD i 0 with
  |false=>simp
  |true=>simpa using ih
theorem Jt:∀(n:Nat) (a b:List Int),a.length=n->b.length=n->((List.range n).all λi=>a.getD i 0==b.getD i 0)=WW a b:=by
 intro n a b ha hb
 rw[Bool.eq_iff_iff,List.all_eq_true]
 unfold WW
 rw[beq_iff_eq]
 constructor
 ·intro h
  refine List.ext_getElem (by omega) λi h1 h2=>?_
  have:=h i (List.mem_range.2 (by omega))
  simpa[List.getD_eq_getElem?_getD,h1,h2]using this
 ·intro h i _
  rw[h]
  simp
theorem qe8{t:TypeId}{n:Nat}{k:IntKind}(w:World)(h:qT P t (.arr n (.int k)))(a b:List Int)(ha:a.length=n)(hb:b.length=n):
  (Op.equal t (.agg (a.map (Value.int k)).toArray) (.agg (b.map (Value.int k)).toArray)).run P w = .ok (WW a b) w:=by
 obtain⟨u,hu,he⟩:=h.arr
 obtain⟨i,hi,hc⟩:=qoG he
 have e:=run_equalIn_array w 9999 (a.map (Value.int k)).toArray (b.map (Value.int k)).toArray hu hi
 have e2:=qj4 w 9998 he a b (List.range n) λj hj=>by
  have:=List.mem_range.1 hj
  omega
 rw[hc,e2,Jt n a b ha hb]at e
 exact e
theorem qns{t:TypeId}{n:Nat}{k:IntKind}(h:qT P t (.arr n (.int k))):P.eqGuardType P.depth t=false:=by
 obtain⟨u,hu,he⟩:=h.arr
 obtain⟨m,hm⟩:∃m,P.depth=m+2:=⟨_,rfl⟩
 rw[hm]
 simp[Program.eqGuardType,hu,he.int]
theorem qmn{w w0:World}{H:FH}(d:Nat):∀(τ:Ty),AZ τ=true->∀(l:List Field) (o:Nat),nR P τ l o->(∀f∈l,f.name≠ "_")->∀(x y:τ.den) (cs cs':List Value) (fp aC:List Nat) (xs ys:Array Value) (r r':List Value),qm P τ w0 H x cs fp->qm P τ w0 H y cs' aC->xs.toList.drop o=cs++r->ys.toList.drop o=cs'++r'->
  (Op.eqFields (d+1) xs ys l).run P w = .ok (vD τ x y) w:=by
 have at0:∀(xs:Array Value) (o:Nat) (v:Value) (r:List Value),xs.toList.drop o=v::r->xs[o]? = some v:=by
  intro xs o v r h
  have h2:(xs.toList.drop o)[0]? = some v:=by rw[h];rfl
  rw[List.getElem?_drop,Nat.add_zero,Array.getElem?_toList]at h2
  exact h2
 have one:∀(τ:Ty),((∃k,τ = .int k)\/τ = .bool)->∀(f:Field) (o:Nat) (t:List Field),f.offset=o->qT P f.type τ->f.name≠ "_" ->∀(x y:τ.den) (cs cs':List Value) (fp aC:List Nat) (xs ys:Array Value) (r r':List Value),qm P τ w0 H x cs fp->qm P τ w0 H y cs' aC->xs.toList.drop o=cs++r->ys.toList.drop o=cs'++r'->
   (Op.eqFields (d+1) xs ys (f::t)).run P w=(if vD τ x y then(Op.eqFields (d+1) xs ys t).run P w else .ok false w)/\xs.toList.drop (o+1)=r/\ys.toList.drop (o+1)=r':=by
  intro τ lg f o t ho a_ hn x y cs cs' fp aC xs ys r r' hx hy hxs hys
  rcases lg with⟨k,rfl⟩|rfl
  ·obtain⟨rfl,_⟩:=hx
   obtain⟨rfl,_⟩:=hy
   have hp:P.plainKey f.type=true:=by simp[Program.plainKey,a_.int]
   have pa:(part f.type xs f.offset).run P w = .ok (.int k x) w:=run_part_plain w hp (by rw[ho];exact at0 xs o _ r hxs)
   have pb:(part f.type ys f.offset).run P w = .ok (.int k y) w:=run_part_plain w hp (by rw[ho];exact at0 ys o _ r' hys)
   have pe:=run_equalIn_int (P:=P) w d f.type k k x y a_.int
   have e:vD (.int k) x y=(@BEq.beq Int _ x y):=rfl
   refine⟨?_,by rw[<-List.drop_drop,hxs];rfl,by rw[<-List.drop_drop,hys];rfl⟩
   simp only[Op.eqFields,hn,ne_eq,not_false_eq_true,if_true,Sem.run_bind,pa,pb,pe,Result.andThen_ok,e]
   cases @BEq.beq Int _ x y<;>simp
  ·obtain⟨rfl,_⟩:=hx
   obtain⟨rfl,_⟩:=hy
   have hp:P.plainKey f.type=true:=by simp[Program.plainKey,a_.bool]
   have pa:(part f.type xs f.offset).run P w = .ok (.bool x) w:=run_part_plain w hp (by rw[ho];exact at0 xs o _ r hxs)
   have pb:(part f.type ys f.offset).run P w = .ok (.bool y) w:=run_part_plain w hp (by rw[ho];exact at0 ys o _ r' hys)
   have pe:=run_equalIn_bool' (P:=P) w d f.type x y a_.bool
   have e:vD .bool x y=(@BEq.beq Bool _ x y):=rfl
   refine⟨?_,by rw[<-List.drop_drop,hxs];rfl,by rw[<-List.drop_drop,hys];rfl⟩
   simp only[Op.eqFields,hn,ne_eq,not_false_eq_true,if_true,Sem.run_bind,pa,pb,pe,Result.andThen_ok,e]
   cases @BEq.beq Bool _ x y<;>simp
 have last:∀(τ:Ty),((∃k,τ = .int k)\/τ = .bool)->∀(l:List Field) (o:Nat),nR P τ l o->(∀f∈l,f.name≠ "_")->∃f,l=[f]/\f.offset=o/\qT P f.type τ/\f.name≠ "_" :=by
  intro τ lg l o hl hn
  rcases lg with⟨k,rfl⟩|rfl
  all_goals
   unfold nR at hl
   simp only[cQ]at hl
   split at hl
   ·rename_i f
    rw[Bool.and_eq_true]at hl
    exact⟨f,rfl,Nat.eq_of_beq_eq_true hl.1,hl.2,hn f List.mem_cons_self⟩
   ·cases hl
 intro τ
 induction τ with
 |int k=>
  intro _ l o hl hn x y cs cs' fp aC xs ys r r' hx hy hxs hys
  obtain⟨f,rfl,ho,ht,hf⟩:=last _ (.inl ⟨k,rfl⟩) l o hl hn
  rw[(one _ (.inl ⟨k,rfl⟩) f o [] ho ht hf x y cs cs' fp aC xs ys r r' hx hy hxs hys).1]
  cases vD (.int k) x y<;>simp[Op.eqFields]
 |bool=>
  intro _ l o hl hn x y cs cs' fp aC xs ys r r' hx hy hxs hys
  obtain⟨f,rfl,ho,ht,hf⟩:=last _ (.inr rfl) l o hl hn
  rw[(one _ (.inr rfl) f o [] ho ht hf x y cs cs' fp aC xs ys r r' hx hy hxs hys).1]
  cases vD .bool x y<;>simp[Op.eqFields]
 |pair a b _ Nv=>
  intro hfl l o hl hn x y cs cs' fp aC xs ys r r' hx hy hxs hys
  have ha:((∃k,a = .int k)\/a = .bool)/\AZ b=true:=by
   cases a<;>simp only[AZ]at hfl<;>first|(cases hfl;done)|exact⟨.inl ⟨_,rfl⟩,hfl⟩|exact⟨.inr rfl,hfl⟩
  obtain⟨ha,hb⟩:=ha
  have hs:a.size=1:=by rcases ha with⟨k,rfl⟩|rfl<;>rfl
  unfold nR at hl
  simp only[cQ]at hl
  split at hl
  case h_2=>cases hl
  rename_i f g t
  rw[Bool.and_eq_true,Bool.and_eq_true]at hl
  obtain⟨⟨h1,h2⟩,h3⟩:=hl
  obtain⟨c1,c2,f1,f2,rfl,_,hx1,hx2⟩:=hx
  obtain⟨c1',c2',f1',f2',rfl,_,hy1,hy2⟩:=hy
  rw[List.append_assoc]at hxs hys
  obtain⟨e1,e2,e3⟩:=one a ha f o (g::t) (Nat.eq_of_beq_eq_true h1) h2 (hn f List.mem_cons_self) x.1 y.1 c1 c1' f1 f1' xs ys _ _ hx1 hy1 hxs hys
  rw[hs]at h3
  have ih:=Nv hb (g::t) (o+1) h3 (λf hf=>hn f (List.mem_cons_of_mem _ hf)) x.2 y.2 c2 c2' f2 f2' xs ys r r' hx2 hy2 e2 e3
  rw[e1,ih]
  show _=Result.ok (vD a x.1 y.1&&vD b x.2 y.2) w
  cases vD a x.1 y.1<;>simp
 |_=>intro h;cases h
theorem qnt(τ:Ty)(hfl:AZ τ=true)(m:Nat):∀(l:List Field) (o:Nat),nR P τ l o->∀f∈l,P.eqGuardType (m+1) f.type=false:=by
 have last:∀(τ:Ty),((∃k,τ = .int k)\/τ = .bool)->∀(f:Field),qT P f.type τ->P.eqGuardType (m+1) f.type=false:=by
  intro τ lg f hf
  rcases lg with⟨k,rfl⟩|rfl
  ·simp[Program.eqGuardType,hf.int]
  ·simp[Program.eqGuardType,hf.bool]
 induction τ with
 |int k=>
  intro l o hl f hf
  unfold nR at hl
  simp only[cQ]at hl
  split at hl
  ·rw[Bool.and_eq_true]at hl
   obtain rfl:=List.mem_singleton.1 hf
   exact last _ (.inl ⟨k,rfl⟩) _ hl.2
  ·cases hl
 |bool=>
  intro l o hl f hf
  unfold nR at hl
  simp only[cQ]at hl
  split at hl
  ·rw[Bool.and_eq_true]at hl
   obtain rfl:=List.mem_singleton.1 hf
   exact last _ (.inr rfl) _ hl.2
  ·cases hl
 |pair a b _ Nv=>
  intro l o hl f hf
  have ha:((∃k,a = .int k)\/a = .bool)/\AZ b=true:=by
   cases a<;>simp only[AZ]at hfl<;>first|(cases hfl;done)|exact⟨.inl ⟨_,rfl⟩,hfl⟩|exact⟨.inr rfl,hfl⟩
  unfold nR at hl
  simp only[cQ]at hl
  split at hl
  case h_2=>cases hl
  rw[Bool.and_eq_true,Bool.and_eq_true]at hl
  rcases List.mem_cons.1 hf with rfl|hf
  ·exact last a ha.1 _ hl.1.2
  ·exact Nv ha.2 _ _ hl.2 f hf
 |_=>cases hfl
theorem qiI{t:TypeId}{τ:Ty}(hfl:AZ τ=true)(w:World){w0:World}{H:FH}(h:qT P t (.str τ)){x y:τ.den}{cs cs':List Value}(hx:qm P τ w0 H x cs [])(hy:qm P τ w0 H y cs' []):
  (Op.equal t (.agg cs.toArray) (.agg cs'.toArray)).run P w = .ok (vD τ x y) w/\P.eqGuardType P.depth t=false:=by
 obtain⟨fs,hu,hfo,hp,hn⟩:=h.plain
 have hff:P.fieldsOf t=fs:=by simp[Program.fieldsOf,hu]
 constructor
 ·have e:=run_equalIn_struct (P:=P) w 9999 t cs.toArray cs'.toArray (by rw[hff];exact hu) hp
  rw[hff]at e
  have:=qmn (P:=P) (w:=w) (w0:=w0) (H:=H) 9998 τ hfl fs.toList 0 hfo hn x y cs cs' [] [] cs.toArray cs'.toArray [] [] hx hy (by simp) (by simp)
  rw[this]at e
  exact e
 ·obtain⟨m,hm⟩:∃m,P.depth=m+2:=⟨_,rfl⟩
  rw[hm]
  have hg:=qnt (P:=P) τ hfl m fs.toList 0 hfo
  simp only[Program.eqGuardType,hu]
  rw[Array.any_eq_false']
  intro f hf
  have:=hg f (by simpa using hf)
  simp[Program.eqGuardType]at this ⊢
  intro _
  exact this
theorem qi.ints{w:World}{H:FH}{Φ os}{n:Nat}{k:IntKind}{l:List Int}{v:Value}(h:qi P C w H Φ os (.val (.arr n (.int k)) l) v):v = .agg (l.map (Value.int k)).toArray/\l.length=n:=by
 obtain⟨_,cs,rfl,hl,hc⟩:=h
 exact⟨by rw[qjB hc];rfl,hl⟩
theorem qos(ae:qx P aa)(hC:qD C aa){op:BinOp}{T T':TypeId}{x y:Operand}(hs:qh P C s a w H Φ)(hd:qK aa.nt dst=true) 
  (h:(match qQ s none x,qQ s none y with
   |some x,some y=>OU op (lk aa.ty T) x y λv=>k (s.ah dst v)
   |_,_=>none)=some r):
  ∃s',k s'=some r/\fG P C ⟨dst,.binOp op T x y T',ty,pos,after,guard⟩ a w s':=by
 split at h
 ·rename_i av bv h1 h2
  have r1:=ql hs qy h1
  have r2:=ql hs qy h2
  unfold OU at h
  split at h
  ·rename_i i m j n
   have v1:=r1.int
   have v2:=r2.int
   split at h
   ·unfold p_ at h
    split at h
    ·cases h
    ·rename_i hn
     exact⟨_,h,qr hs hC hd (qi.bc w H Φ s.obj _ _) (λw' _=>by simp[execOp,v1,v2,eqGuard,binOp,Op.shift,hn,Tk])⟩
   ·unfold p_ at h
    split at h
    ·cases h
    ·rename_i hn
     exact⟨_,h,qr hs hC hd (qi.bc w H Φ s.obj _ _) (λw' _=>by simp[execOp,v1,v2,eqGuard,binOp,Op.shift,hn,pO])⟩
   ·rename_i n1 n2
    cases hij:(i==j)with
    |false=>rw[hij]at h;cases h
    |true=>
     rw[hij,cond_true]at h
     have hij':i=j:=by simpa using hij
     subst hij'
     cases op
     case shl=>exact absurd rfl n1
     case shr=>exact absurd rfl n2
     case quo=>
      simp only[nzK]at h
      split at h
      ·cases h
      ·rename_i hn
       exact⟨_,h,qr hs hC hd (qi.bc w H Φ s.obj _ _) (λw' _=>by simp[execOp,v1,v2,eqGuard,binOp,Op.intDiv,hn])⟩
     case rem=>
      simp only[nzK]at h
      split at h
      ·cases h
      ·rename_i hn
       exact⟨_,h,qr hs hC hd (qi.bc w H Φ s.obj _ _) (λw' _=>by simp[execOp,v1,v2,eqGuard,binOp,Op.intDiv,hn])⟩
     case add=>exact⟨_,h,qr hs hC hd (qi.bc w H Φ s.obj _ _) (λw' _=>by simp[execOp,v1,v2,eqGuard,binOp,Op.intArith])⟩
     case sub=>exact⟨_,h,qr hs hC hd (qi.bc w H Φ s.obj _ _) (λw' _=>by simp[execOp,v1,v2,eqGuard,binOp,Op.intArith])⟩
     case mul=>exact⟨_,h,qr hs hC hd (qi.bc w H Φ s.obj _ _) (λw' _=>by simp[execOp,v1,v2,eqGuard,binOp,Op.intArith])⟩
     case and=>exact⟨_,h,qr hs hC hd (qi.bc w H Φ s.obj _ _) (λw' _=>by simp[execOp,v1,v2,eqGuard,binOp,Op.intBits,FV])⟩
     case or=>exact⟨_,h,qr hs hC hd (qi.bc w H Φ s.obj _ _) (λw' _=>by simp[execOp,v1,v2,eqGuard,binOp,Op.intBits,FV])⟩
     case xor=>exact⟨_,h,qr hs hC hd (qi.bc w H Φ s.obj _ _) (λw' _=>by simp[execOp,v1,v2,eqGuard,binOp,Op.intBits,FV])⟩
     case andNot=>exact⟨_,h,qr hs hC hd (qi.bc w H Φ s.obj _ _) (λw' _=>by simp[execOp,v1,v2,eqGuard,binOp,Op.intBits,FV])⟩
     all_goals exact⟨_,h,qr hs hC hd (qi.bC w H Φ s.obj _) (λw' _=>by simp[execOp,v1,v2,eqGuard,binOp,Op.intCmp])⟩
  ·have v1:=r1.bool
   have v2:=r2.bool
   cases hT:decide (lk aa.ty T=some .bool)with
   |false=>rw[hT]at h;cases h
   |true=>
    rw[hT,cond_true]at h
    have hb:=(ae.ty T .bool (of_decide_eq_true hT)).1.bool
    split at h
    ·exact⟨_,h,qr hs hC hd (qi.bC w H Φ s.obj _) (λw' _=>by simp[execOp,v1,v2,eqGuard,binOp,run_equal_bool w' T _ _ hb])⟩
    ·exact⟨_,h,qr hs hC hd (qi.bC w H Φ s.obj _) (λw' _=>by simp[execOp,v1,v2,eqGuard,binOp,run_equal_bool w' T _ _ hb])⟩
    ·cases h
  ·rename_i n i l m j l'
   obtain⟨v1,Vf⟩:=r1.ints
   obtain⟨v2,Ve⟩:=r2.ints
   cases hT:decide (lk aa.ty T=some (.arr n (.int i)))&&Nat.beq n m&&(i==j)with
   |false=>rw[hT]at h;cases h
   |true=>
    rw[hT,cond_true]at h
    simp only[Bool.and_eq_true]at hT
    obtain rfl:n=m:=Nat.eq_of_beq_eq_true hT.1.2
    have hij:i=j:=by simpa using hT.2
    subst hij
    have a_:=(ae.ty T _ (of_decide_eq_true hT.1.1)).1
    have hg:=qns a_
    split at h
    ·exact⟨_,h,qr hs hC hd (qi.bC w H Φ s.obj _) (λw' _=>by simp[execOp,v1,v2,run_eqGuard_agg w' _ T x y _ _ hg,binOp,qe8 w' a_ l l' Vf Ve])⟩
    ·exact⟨_,h,qr hs hC hd (qi.bC w H Φ s.obj _) (λw' _=>by simp[execOp,v1,v2,run_eqGuard_agg w' _ T x y _ _ hg,binOp,qe8 w' a_ l l' Vf Ve])⟩
    ·cases h
  ·rename_i τ x1 σ y1
   cases hT:decide (lk aa.ty T=some (.str τ))&&AZ τ with
   |false=>rw[hT]at h;cases h
   |true=>
    rw[hT,cond_true]at h
    rw[Bool.and_eq_true]at hT
    rw[qj]at h
    replace h:=Option.bind_eq_some_iff.1 h
    obtain⟨y2,hy2,h⟩:=h
    obtain⟨e1,e2⟩:=qg hy2
    subst e1
    simp only at e2
    subst e2
    have a_:=(ae.ty T _ (of_decide_eq_true hT.1)).1
    obtain⟨_,cs1,v1,p1⟩:=r1
    obtain⟨_,Xd,v2,p2⟩:=r2
    have v1:a.eval x = .agg cs1.toArray:=v1
    have v2:a.eval y = .agg Xd.toArray:=v2
    have hq:∀w':World,(Op.equal T (.agg cs1.toArray) (.agg Xd.toArray)).run P w' = .ok (vD σ x1 y2) w'/\P.eqGuardType P.depth T=false:=λw'=>
     qiI hT.2 w' a_ p1 p2
    split at h
    ·exact⟨_,h,qr hs hC hd (qi.bC w H Φ s.obj _) (λw' _=>by simp[execOp,v1,v2,run_eqGuard_agg w' _ T x y _ _ (hq w').2,binOp,(hq w').1])⟩
    ·exact⟨_,h,qr hs hC hd (qi.bC w H Φ s.obj _) (λw' _=>by simp[execOp,v1,v2,run_eqGuard_agg w' _ T x y _ _ (hq w').2,binOp,(hq w').1])⟩
    ·cases h
  ·cases h
 ·cases h
theorem qna(_hcfg:qx P aa)(hC:qD C aa){x:Operand}{i:Nat}(hs:qh P C s a w H Φ)(hd:qK aa.nt dst=true)(h:qM aa ⟨dst,.extract x i,ty,pos,after,guard⟩ s k=some r):
  ∃s',k s'=some r/\fG P C ⟨dst,.extract x i,ty,pos,after,guard⟩ a w s':=by
 have key:∀(av:AV) (i:Nat) (b:AV) (us:List Value),qi P C w H Φ s.obj av (.tuple us.toArray)->qht av i=some b->∃u,us[i]? = some u/\qi P C w H Φ s.obj b u:=by
  intro av
  induction av with
  |cons a1 a2 _ Vp=>
   intro i b us hr he
   obtain⟨u,Yf,h1,h2,h3⟩:=hr
   obtain rfl:us=u::Yf:=by simpa using h1
   match i with
   |0=>cases he;exact⟨u,rfl,h2⟩
   |i+1=>exact Vp i b Yf h3 he
  |_=>intro i b us _ he;cases i<;>cases he
 simp only[qM]at h
 split at h
 ·rename_i av he
  split at h
  ·rename_i b hb
   have hr:=ql hs qy he
   obtain⟨us,zu⟩:∃us:List Value,a.eval x = .tuple us.toArray:=by
    cases av<;>first|(cases i<;>cases hb;done)|skip
    obtain⟨u,us,h1,_⟩:=hr
    exact⟨_,h1⟩
   rw[zu]at hr
   obtain⟨u,hu,hr'⟩:=key av i b us hr hb
   exact⟨_,h,qr hs hC hd hr' (λw' _=>by simp[execOp,zu,Instr.extract,hu])⟩
  ·cases h
 ·cases h
theorem qlY(_hcfg:qx P aa)(hC:qD C aa){f:Nat}{first aG:Array Operand}(hs:qh P C s a w H Φ)(hd:qK aa.nt dst=true)(h:qM aa ⟨dst,.makeFunc (.func f) first aG,ty,pos,after,guard⟩ s k=some r):
  ∃s',k s'=some r/\fG P C ⟨dst,.makeFunc (.func f) first aG,ty,pos,after,guard⟩ a w s':=by
 have key:∀(oT:List AV) (l:List Operand),dl (λav x=>qi P C w H Φ s.obj av (a.eval x)) oT l->qi P C w H Φ s.obj (AV.ofList oT) (.tuple (l.map a.eval).toArray):=by
  intro oT
  induction oT with
  |nil=>intro l hh;cases l<;>first|rfl|exact hh.elim
  |cons av oT ih=>intro l hh;cases l<;>first|exact hh.elim|exact⟨_,_,rfl,hh.1,ih _ hh.2⟩
 simp only[qM]at h
 split at h
 ·rename_i l1 l2 h1 h2
  have r1:=key _ _ (jY hs (λ_=>qy) h1)
  have r2:=key _ _ (jY hs (λ_=>qy) h2)
  refine⟨_,h,qr hs hC hd (v:=.func (.func f) (first.map a.eval) (aG.map a.eval)) ⟨_,_,rfl,?_,?_⟩ (λw' _=>by simp[execOp,Instr.makeFunc])⟩
  ·rw[<-Array.toArray_toList (xs:=first.map a.eval),Array.toList_map];exact r1
  ·rw[<-Array.toArray_toList (xs:=aG.map a.eval),Array.toList_map];exact r2
 ·cases h
end
end Go.Vi
