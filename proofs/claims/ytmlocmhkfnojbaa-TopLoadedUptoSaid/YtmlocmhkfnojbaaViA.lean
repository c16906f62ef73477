/- The abstract interpreter Vi, part A: a verified interpreter over the model's code, whose run of a function gives the contract of the function. No condition beyond those typed in each theorem. -/
import Derived.WalkKit
import Derived.StillTail
import Derived.Deep.Quiet
import Derived.Laws.MakeOwn
import Derived.DeepKeys
import Derived.Laws.StructEq
import Derived.Laws.IdiomCopy
import Derived.Laws.CopyRow
import Derived.OrdersHeld
import Derived.Maps.Range
import Derived.Maps.RangeWalk
namespace Go.Vi
inductive Ty where
 |int (k:IntKind)
 |bool
 |list (own:Bool) (tid:Nat) (e:Ty)
 |pair (a b:Ty)
 |str (t:Ty)
 |ptr (t:Ty)
 |op (t:Ty)
 |arr (n:Nat) (e:Ty)
 |fn (a r:Ty)
 |fn2 (a b r:Ty)
 |ext (own:Bool) (n i j:Nat)
 deriving DecidableEq
abbrev XK:=Int×Int
def qcM:Nat->Type
 |0=>Option (List (XK×XK))
 |1=>Option (List (XK×Int))
 |2=>XK×XK
 |3=>List (XK×XK)×Option (XK×XK)
 |4=>Option (List (XK×XK))
 |_=>Option Nat
def qcM.zero:(n:Nat)->qcM n
 |0=>(none:Option (List (XK×XK)))
 |1=>(none:Option (List (XK×Int)))
 |2=>(((0:Int),(0:Int)),((0:Int),(0:Int)))
 |3=>(([]:List (XK×XK)),(none:Option (XK×XK)))
 |4=>(none:Option (List (XK×XK)))
 |_+5=>(some 0:Option Nat)
@[reducible] def Ty.den:Ty->Type
 |.int _=>Int
 |.bool=>Bool
 |.list _ _ e=>List e.den
 |.pair a b=>a.den×b.den
 |.str t=>t.den
 |.ptr t=>Option t.den
 |.op t=>Option t.den
 |.arr _ e=>List e.den
 |.fn a r=>a.den->Option r.den
 |.fn2 a b r=>a.den->b.den->Option r.den
 |.ext _ n _ _=>qcM n
def Ty.size:Ty->Nat
 |.pair a b=>a.size+b.size
 |.str t=>t.size
 |.arr n e=>n*e.size
 |_=>1
def Ty.zero:(τ:Ty)->τ.den
 |.int _=>(0:Int)
 |.bool=>false
 |.list _ _ _=>[]
 |.pair a b=>(a.zero,b.zero)
 |.str t=>t.zero
 |.ptr _=>none
 |.op _=>none
 |.arr n e=>List.replicate n e.zero
 |.fn _ _=>λ_=>none
 |.fn2 _ _ _=>λ_ _=>none
 |.ext _ n _ _=>qcM.zero n
def Ty.zeroCells:Ty->List Value
 |.int k=>[.int k 0]
 |.bool=>[.bool false]
 |.list _ _ _=>[.slice none 0 0]
 |.pair a b=>a.zeroCells++b.zeroCells
 |.str t=>t.zeroCells
 |.ptr _=>[.pointer none]
 |.op _=>[.pointer none]
 |.arr n e=>(List.replicate n e.zeroCells).flatten
 |.fn _ _=>[.nilFunc]
 |.fn2 _ _ _=>[.nilFunc]
 |.ext _ n _ _=>match n with
  |0=>[.map none]
  |1=>[.map none]
  |2=>[.nilIface]
  |3=>[.nilIface]
  |4=>[.nilIface]
  |_=>[.slice none 0 0]
def Ty.noFn:Ty->Bool
 |.list _ _ e=>e.noFn
 |.pair a b=>a.noFn&&b.noFn
 |.str t=>t.noFn
 |.ptr t=>t.noFn
 |.op t=>t.noFn
 |.arr _ e=>e.noFn
 |.fn _ _=>false
 |.fn2 _ _ _=>false
 |.ext _ _ _ _=>false
 |_=>true
def Ty.noFx:Ty->Bool
 |.pair a b=>a.noFx&&b.noFx
 |.str t=>t.noFx
 |.ext _ _ _ _=>true
 |t=>t.noFn
def Ty.zeroX:Ty->Bool
 |.pair a b=>a.zeroX&&b.zeroX
 |.str t=>t.zeroX
 |.ext _ n _ _=>!(Nat.beq n 2||Nat.beq n 3)
 |t=>t.noFn
def Ty.isFz:Ty->Bool
 |.list o _ e=>!o&&e.isFz
 |.pair a b=>a.isFz&&b.isFz
 |.str t=>t.isFz
 |.ptr t=>t.isFz
 |.op _=>false
 |.arr _ e=>e.isFz
 |.fn a r=>a.isFz&&r.isFz
 |.fn2 a b r=>a.isFz&&b.isFz&&r.isFz
 |.ext o _ _ _=>!o
 |_=>true
def Ty.isFlat:Ty->Bool
 |.int _=>true
 |.bool=>true
 |.pair a b=>a.isFlat&&b.isFlat
 |.str t=>t.isFlat
 |.arr _ e=>e.isFlat
 |_=>false
def Ty.isClosed:Ty->Bool
 |.int _=>true
 |.bool=>true
 |.list o _ e=>o&&e.isClosed
 |.pair a b=>a.isClosed&&b.isClosed
 |.str t=>t.isClosed
 |.arr _ e=>e.isClosed
 |.op t=>t.isClosed
 |.ext o n _ _=>o && !Nat.beq n 3
 |_=>false
def Ty.fz:Ty->Ty
 |.list _ t e=>.list false t e.fz
 |.pair a b=>.pair a.fz b.fz
 |.str t=>.str t.fz
 |.ptr t=>.ptr t.fz
 |.op t=>.ptr t.fz
 |.arr n e=>.arr n e.fz
 |.fn a r=>.fn a.fz r.fz
 |.fn2 a b r=>.fn2 a.fz b.fz r.fz
 |.ext _ n i j=>.ext false n i j
 |.int k=>.int k
 |.bool=>.bool
theorem Ty.den_fz:(τ:Ty)->τ.fz.den=τ.den
 |.int _=>rfl
 |.bool=>rfl
 |.list _ _ e=>by simp only[Ty.fz,Ty.den,Ty.den_fz e]
 |.pair a b=>by simp only[Ty.fz,Ty.den,Ty.den_fz a,Ty.den_fz b]
 |.str t=>by simp only[Ty.fz,Ty.den,Ty.den_fz t]
 |.ptr t=>by simp only[Ty.fz,Ty.den,Ty.den_fz t]
 |.op t=>by simp only[Ty.fz,Ty.den,Ty.den_fz t]
 |.arr _ e=>by simp only[Ty.fz,Ty.den,Ty.den_fz e]
 |.fn a r=>by simp only[Ty.fz,Ty.den,Ty.den_fz a,Ty.den_fz r]
 |.fn2 a b r=>by simp only[Ty.fz,Ty.den,Ty.den_fz a,Ty.den_fz b,Ty.den_fz r]
 |.ext _ _ _ _=>rfl
def Ty.isAgg:Ty->Bool
 |.str _=>true
 |.arr _ _=>true
 |_=>false
def qA(τ σ:Ty)(x:τ.den):Option σ.den:=
 if h:τ=σ then some (h▸x)else none
def qhl(τ:Ty)(x:τ.den):τ.fz.den:=cast (Ty.den_fz τ).symm x
noncomputable def dem{ι R:Type}(p:ι->Prop)(k:ι->Option R):Option R:=
 open Classical in if h:∃r,∀i,p i->k i=some r then some h.choose else none
theorem qeN{ι R:Type}{p:ι->Prop}{k:ι->Option R}{r:R}(h:dem p k=some r)(i:ι)(hi:p i):k i=some r:=by
 unfold dem at h
 split at h
 ·rename_i hx
  cases h
  exact hx.choose_spec i hi
 ·cases h
theorem qm3{ι R:Type}{p:ι->Prop}{k:ι->Option R}{r:R}(i:ι)(hi:p i)(h:∀i,p i->k i=some r):dem p k=some r:=by
 unfold dem
 have hx:∃r,∀i,p i->k i=some r:=⟨r,h⟩
 rw[dif_pos hx]
 have:=hx.choose_spec i hi
 rw[h i hi]at this
 exact this.symm
noncomputable def qc{R:Type}(l:List (Option R)):Option R:=dem (λx:Option R=>x∈l) λx=>x
theorem qhu{R:Type}{l:List (Option R)}{r:R}(h:qc l=some r):∀x∈l,x=some r:=λx hx=>qeN h x hx
theorem qol{R:Type}{x:Option R}{r:R}{l:List (Option R)}(h:∀y∈x::l,y=some r):qc (x::l)=some r:=qm3 x (List.mem_cons_self ..) λi hi=>h i hi
noncomputable def wpK{Y R:Type}(W:(Y->Prop)->Prop)(k:Y->Option R):Option R:=
 open Classical in if h:∃r,W (λy=>k y=some r)then some h.choose else none
theorem qhU{Y R:Type}{W:(Y->Prop)->Prop}{k:Y->Option R}{r:R}(h:wpK W k=some r):W (λy=>k y=some r):=by
 unfold wpK at h
 split at h
 ·rename_i hx
  cases h
  exact hx.choose_spec
 ·cases h
theorem wpK_of{Y R:Type}{W:(Y->Prop)->Prop}{k:Y->Option R}{r:R}(h1:W (λy=>k y=some r))(h2:∀S,W S->∃y,k y=some r/\S y):wpK W k=some r:=by
 have h:∃r,W (λy=>k y=some r):=⟨r,h1⟩
 unfold wpK
 rw[dif_pos h]
 obtain⟨y,e1,e2⟩:=h2 _ h.choose_spec
 rw[<-e2,e1]
noncomputable def asrt(p:Prop):Option Unit:=open Classical in if p then some ()else none
theorem qct{p:Prop}(h:asrt p=some ()):p:=by
 unfold asrt at h
 split at h
 ·assumption
 ·cases h
theorem asrt_of{p:Prop}(h:p):asrt p=some ():=by
 unfold asrt
 rw[if_pos h]
noncomputable def nilK{R:Type}(n:Nat)(k:Bool->Option R):Option R:=bif Nat.beq n 0 then dem (λ_:Bool=>True) k else k false
def qs{α R:Type}(l:List α)(i:Int)(k:α->Option R):Option R:=
 if 0<=i then(match l[i.toNat]? with|some x=>k x|none=>none)else none
def inR{R:Type}(i:Int)(n:Nat)(k:Option R):Option R:=if 0<=i/\i<n then k else none
def qa{α R:Type}(o:Option α)(k:α->Option R):Option R:=match o with|some x=>k x|none=>none
def lenOK:Int->Bool
 |.ofNat m=>Nat.ble m 274877906944
 |.negSucc _=>false
def ql{R:Type}(n:Int)(k:Option R):Option R:=bif lenOK n then k else none
theorem qjL{n:Int}:lenOK n=true↔0<=n/\n<=274877906944:=by
 cases n with
 |ofNat m=>
  show Nat.ble m 274877906944=true↔_
  rw[Nat.ble_eq]
  constructor
  ·intro h;exact⟨Int.natCast_nonneg m,by show((m:Nat):Int)<=274877906944;omega⟩
  ·rintro⟨_,h⟩;have h':((m:Nat):Int)<=274877906944:=h;omega
 |negSucc m=>
  constructor
  ·intro h;cases h
  ·rintro⟨h,_⟩;exact absurd h (by simp)
theorem jR{R:Type}(n:Int)(k:Option R):ql n k=if 0<=n/\n<=274877906944 then k else none:=by
 unfold ql
 cases h:lenOK n with
 |true=>rw[if_pos (qjL.1 h)];rfl
 |false=>rw[if_neg (λhh=>by rw[qjL.2 hh]at h;cases h)];rfl
def leK{R:Type}(a b:Int)(k:Option R):Option R:=if a<=b then k else none
def eqK{R:Type}(a b:Int)(k:Option R):Option R:=if a=b then k else none
def nzK{R:Type}(a:Int)(k:Option R):Option R:=if a=0 then none else k
inductive qq where
 |L|R
 |I (i:Int)
inductive AV where
 |dead
 |val (τ:Ty) (x:τ.den)
 |ref (τ:Ty) (x:τ.den)
 |ptr (id:Nat) (p:List qq)
 |view (id:Nat) (p:List qq)
 |upd (id:Nat) (p:List qq) (tid:Nat) (e:Ty) (l:List e.den)
 |cut (id:Nat) (p:List qq) (sz:Nat) (lo:Int)
 |fn (f:Nat) (first caps:AV)
 |nil
 |cons (a b:AV)
 |gh (n:Nat) (a:AV)
 |cv (i f n:Nat)
structure Obj where
 row:Bool
 τ:Ty
 x:τ.den
structure Ms where
 kt:Nat
 vt:Nat
 tm:List Nat
 kv:List (Int×Int)
 it:Option (List Nat×List Int)
 cur:Option (Int×Int)
def qgo(t:Nat):List Nat->List Nat
 |[]=>[]
 |u::r=>bif Nat.beq u t then qgo t r else u::qgo t r
def ghId:Nat:=3000000
def qdH(t:Nat):List Nat->Bool
 |[]=>false
 |u::r=>Nat.beq u t||qdH t r
def Ms.strike(m:Ms)(d:Option Nat):Ms:=
 match d with
 |none=>m
 |some t=>⟨m.kt,m.vt,qgo t m.tm,m.kv,m.it.map λx=>(qgo t x.1,x.2),m.cur⟩
def Ms.calm(m:Ms):Ms:=⟨m.kt,m.vt,m.tm,m.kv,m.it,none⟩
def Ms.add(m:Ms)(d:Option Nat):Ms:=
 match d with
 |none=>m
 |some t=>⟨m.kt,m.vt,t::m.tm,m.kv,m.it,m.cur⟩
def lkI:List (Int×Int)->Int->Option Int
 |[],_=>none
 |(n,v)::r,k=>bif n==k then some v else lkI r k
def qes:List (Int×Int)->Int->Int->List (Int×Int)
 |[],k,v=>[(k,v)]
 |(n,u)::r,k,v=>bif n==k then(k,v)::r else(n,u)::qes r k v
def qi3:List (Int×Int)->Int->List (Int×Int)
 |[],_=>[]
 |(n,u)::r,k=>bif n==k then r else(n,u)::qi3 r k
def qi0(k:Int):List Int->List Int
 |[]=>[]
 |n::r=>bif n==k then qi0 k r else n::qi0 k r
def eqX(a b:XK):Bool:=(a.1==b.1)&&(a.2==b.2)
def qX{β:Type}:List (XK×β)->XK->Option β
 |[],_=>none
 |x::r,k=>bif eqX x.1 k then some x.2 else qX r k
def qaC{β:Type}:List (XK×β)->XK->β->List (XK×β)
 |[],k,v=>[(k,v)]
 |x::r,k,v=>bif eqX x.1 k then(k,v)::r else x::qaC r k v
def qaP{β:Type}(k:XK):List (XK×β)->List (XK×β)
 |[]=>[]
 |x::r=>bif eqX x.1 k then qaP k r else x::qaP k r
structure St where
 ts:List (Nat×AV)
 os:List (Nat×Option Obj)
 mp:Option Ms:=none
def St.withM(s:St)(m:Option Ms):St:=⟨s.ts,s.os,m⟩
def lk{α:Type}:List (Nat×α)->Nat->Option α
 |[],_=>none
 |(m,a)::r,n=>bif Nat.beq m n then some a else lk r n
def St.get(s:St)(t:Nat):Option AV:=lk s.ts t
def St.set(s:St)(t:Nat)(a:AV):St:={s with ts:=(t,a)::s.ts}
def St.obj(s:St)(id:Nat):Option Obj:=(lk s.os id).join
def St.setObj(s:St)(id:Nat)(o:Option Obj):St:={s with os:=(id,o)::s.os}
def St.setDst(s:St)(d:Option Nat)(a:AV):St:=match d with|some t=>s.set t a|none=>s
def AV.killIf(f:AV->Bool):AV->AV
 |.cons a b=>.cons (a.killIf f) (b.killIf f)
 |.fn g b c=>.fn g (b.killIf f) (c.killIf f)
 |.cut i p z lo=>bif f (.view i p)then .dead else .cut i p z lo
 |.gh n a=>.gh n (a.killIf f)
 |a=>bif f a then .dead else a
def AV.isUpd:AV->Bool
 |.upd _ _ _ _ _=>true
 |_=>false
def AV.names(id:Nat):AV->Bool
 |.ptr i _=>Nat.beq i id
 |.view i _=>Nat.beq i id
 |.upd _ _ _ _ _=>true
 |_=>false
def St.killIf(s:St)(f:AV->Bool):St:={s with ts:=s.ts.map λx=>(x.1,x.2.killIf f)}
def St.kill(s:St)(id:Nat):St:=s.killIf (AV.names id)
def qq.isI:qq->Bool
 |.I _=>true
 |_=>false
def AV.stale(id:Nat)(row:Bool):AV->Bool
 |.view i p=>Nat.beq i id && !(row&&p.isEmpty)
 |.ptr i p=>Nat.beq i id&&p.any qq.isI
 |.upd _ _ _ _ _=>true
 |_=>false
def AV.staleX(id:Nat):AV->Bool
 |.view i p=>Nat.beq i id&&p.any qq.isI
 |.ptr i p=>Nat.beq i id&&p.any qq.isI
 |.upd _ _ _ _ _=>true
 |_=>false
def j8:List qq->List qq->Bool
 |.L::p,.L::q=>j8 p q
 |.R::p,.R::q=>j8 p q
 |.L::_,.R::q=>!q.any qq.isI
 |.R::_,.L::q=>!q.any qq.isI
 |_,_=>false
def thru:Ty->List qq->Bool
 |.pair a b,p=>match p with
  |.L::p=>thru a p
  |.R::p=>thru b p
  |_=>false
 |.str t,p=>thru t p
 |.list true _ _,p=>match p with
  |.I _::_=>true
  |_=>false
 |.op _,p=>match p with
  |.I _::_=>true
  |_=>false
 |_,_=>false
def qa9:List qq->List qq->Bool
 |_,[]=>true
 |.L::p,.L::q=>qa9 p q
 |.R::p,.R::q=>qa9 p q
 |.I _::p,.I _::q=>qa9 p q
 |.L::_,.R::_=>true
 |.R::_,.L::_=>true
 |_,_=>false
def qaF:Ty->List qq->List qq->Bool
 |.pair a b,p,q=>match p,q with
  |.L::p,.L::q=>qaF a p q
  |.R::p,.R::q=>qaF b p q
  |.L::_,.R::_=>true
  |.R::_,.L::_=>true
  |p,[]=>thru (.pair a b) p
  |_,_=>false
 |.str t,p,q=>qaF t p q
 |.list true _ e,p,q=>match p,q with
  |.I _::p,.I _::q=>qaF e p q
  |.I _::_,[]=>true
  |_,_=>false
 |.op t,p,q=>match p,q with
  |.I _::p,.I _::q=>qaF t p q
  |.I _::_,[]=>true
  |_,_=>false
 |.arr _ e,p,q=>match p,q with
  |.I _::p,.I _::q=>qaF e p q
  |_,_=>false
 |_,_,_=>false
def qci:Ty->List qq->Option Ty
 |.pair a b,p=>match p with
  |[]=>some (.pair a b)
  |.L::q=>qci a q
  |.R::q=>qci b q
  |_=>none
 |.str t,p=>match p with
  |[]=>some (.str t)
  |s::q=>qci t (s::q)
 |.list true tid e,p=>match p with
  |[]=>some (.list true tid e)
  |.I _::q=>qci e q
  |_=>none
 |.arr n e,p=>match p with
  |[]=>some (.arr n e)
  |.I _::q=>qci e q
  |_=>none
 |.op t,p=>match p with
  |[]=>some (.op t)
  |.I _::q=>qci t q
  |_=>none
 |t,p=>match p with
  |[]=>some t
  |_=>none
def Ty.isBare:Ty->Bool
 |.int _=>true
 |.bool=>true
 |.pair a b=>a.isBare&&b.isBare
 |.str t=>t.isBare
 |_=>false
def bareAt(τ:Ty)(p:List qq):Bool:=match qci τ p with
 |some σ=>σ.isBare
 |none=>false
def AV.staleP(id:Nat)(row:Bool)(τ:Ty)(p:List qq):AV->Bool
 |.view i q=>Nat.beq i id&&(!(row&&q.isEmpty) && !qaF τ p q)
 |.ptr i q=>Nat.beq i id&&(q.any qq.isI && !(bareAt τ p||qa9 p q))
 |.upd _ _ _ _ _=>true
 |_=>false
def AV.staleV(id:Nat)(row:Bool)(p:List qq):AV->Bool
 |.view i q=>Nat.beq i id&&(!(row&&q.isEmpty) && !qa9 p q)
 |.ptr i q=>Nat.beq i id&&(q.any qq.isI && !qa9 p q)
 |.upd _ _ _ _ _=>true
 |_=>false
def qa1{R:Type}:(τ:Ty)->τ.den->List qq->((σ:Ty)->σ.den->Option R)->Option R
 |.pair a b,x,p,k=>match p with
  |[]=>k (.pair a b) x
  |.L::q=>qa1 a x.1 q k
  |.R::q=>qa1 b x.2 q k
  |_=>none
 |.str t,x,p,k=>match p with
  |[]=>k (.str t) x
  |s::q=>qa1 t x (s::q) k
 |.list true tid e,x,p,k=>match p with
  |[]=>k (.list true tid e) x
  |.I i::q=>qs x i λy=>qa1 e y q k
  |_=>none
 |.arr n e,x,p,k=>match p with
  |[]=>k (.arr n e) x
  |.I i::q=>qs x i λy=>qa1 e y q k
  |_=>none
 |.op t,x,p,k=>match p with
  |[]=>k (.op t) x
  |.I _::q=>qa x λy=>qa1 t y q k
  |_=>none
 |t,x,p,k=>match p with
  |[]=>k t x
  |_=>none
def qaZ{R:Type}:(τ:Ty)->τ.den->List qq->(σ:Ty)->σ.den->(τ.den->Option R)->Option R
 |.pair a b,x,p,σ,y,k=>match p with
  |[]=>qa (qA σ (.pair a b) y) k
  |.L::q=>qaZ a x.1 q σ y λz=>k (z,x.2)
  |.R::q=>qaZ b x.2 q σ y λz=>k (x.1,z)
  |_=>none
 |.str t,x,p,σ,y,k=>match p with
  |[]=>qa (qA σ (.str t) y) k
  |s::q=>qaZ t x (s::q) σ y k
 |.list true tid e,x,p,σ,y,k=>match p with
  |[]=>qa (qA σ (.list true tid e) y) k
  |.I i::q=>qs x i λz=>qaZ e z q σ y λz'=>k (x.set i.toNat z')
  |_=>none
 |.arr n e,x,p,σ,y,k=>match p with
  |[]=>qa (qA σ (.arr n e) y) k
  |.I i::q=>qs x i λz=>qaZ e z q σ y λz'=>k (x.set i.toNat z')
  |_=>none
 |.op t,x,p,σ,y,k=>match p with
  |[]=>qa (qA σ (.op t) y) k
  |.I _::q=>qa x λz=>qaZ t z q σ y λz'=>k (some z')
  |_=>none
 |t,_,p,σ,y,k=>match p with
  |[]=>qa (qA σ t y) k
  |_=>none
def qbF:Ty->Nat->List qq
 |.pair _ _,0=>[.L]
 |.pair _ b,i+1=>.R::qbF b i
 |_,_=>[]
def qaD:Ty->Nat->Bool
 |.pair _ _,0=>true
 |.pair _ b,i+1=>qaD b i
 |_,i=>Nat.beq i 0
def qjD{R:Type}:(τ:Ty)->τ.den->List qq->((σ:Ty)->σ.den->Option R)->Option R
 |.pair a b,x,p,k=>match p with
  |[]=>k (.pair a b) x
  |.L::q=>qjD a x.1 q k
  |.R::q=>qjD b x.2 q k
  |_=>none
 |t,x,p,k=>match p with
  |[]=>k t x
  |_=>none
end Go.Vi
namespace Go.Vi
inductive jT where
 |v (τ:Ty)
 |r (τ:Ty)
 |m (τ:Ty)
 |mr (tid:Nat) (e:Ty)
 |c (f:Nat)
 |t (tid:Nat) (e:Ty)
 |gm (τ:Ty)
 |cm (f:Nat) (τ:Ty)
def qlg:Ty->Bool
 |.list true _ _=>true
 |.str _=>true
 |.ext true _ _ _=>true
 |_=>false
inductive RTy where
 |v (τ:Ty)
 |own (tid:Nat) (e:Ty)
 |optr (τ:Ty)
 |ownv (τ:Ty)
 |sure (nn:Bool) (tid:Nat) (e:Ty)
@[reducible] def jT.den:jT->Type
 |.v τ=>τ.den
 |.r τ=>τ.den
 |.c _=>Unit
 |.m τ=>τ.den
 |.mr _ e=>List e.den
 |.t _ e=>List e.den
 |.gm τ=>τ.den
 |.cm _ τ=>τ.den
@[reducible] def RTy.den:RTy->Type
 |.v τ=>τ.den
 |.own _ e=>List e.den
 |.optr τ=>τ.den
 |.ownv τ=>τ.den
 |.sure _ _ e=>List e.den
@[reducible] def PDens:List jT->Type
 |[]=>Unit
 |p::ps=>p.den×PDens ps
@[reducible] def RDens:List RTy->Type
 |[]=>Unit
 |p::ps=>p.den×RDens ps
@[reducible] def MDens:List jT->Type
 |[]=>Unit
 |.m τ::ps=>τ.den×MDens ps
 |.mr _ e::ps=>List e.den×MDens ps
 |.v _::ps=>MDens ps
 |.r _::ps=>MDens ps
 |.c _::ps=>MDens ps
 |.t _ _::ps=>MDens ps
 |.gm _::ps=>MDens ps
 |.cm _ τ::ps=>τ.den×MDens ps
structure jE where
 ps:List jT
 rs:List RTy
 g:PDens ps->Option (RDens rs×MDens ps)
structure qeV where
 p:jE
 f:Nat
def jT.closed:jT->Bool
 |.m τ=>τ.isClosed
 |.mr _ e=>e.isFlat
 |.t _ e=>e.isFlat
 |.gm τ=>τ.isClosed
 |.cm _ τ=>τ.isClosed
 |_=>true
def RTy.closed:RTy->Bool
 |.v τ=>τ.isFlat
 |.own _ e=>e.isFlat
 |.optr τ=>τ.isClosed
 |.ownv τ=>τ.isClosed
 |.sure _ _ e=>e.isFlat
inductive Sh where
 |v (τ:Ty)
 |r (τ:Ty)
 |c (a:AV)
 |k (g i:Nat) (τ:Ty)
 |p (vw:Bool) (i:Nat) (q1 q2:List qq)
 |u (i:Nat) (q1 q2:List qq) (tid:Nat) (e:Ty)
structure MSh where
 kt:Nat
 vt:Nat
 tm:List Nat
 ti:Option (List Nat)
structure qdp where
 ts:List (Nat×Sh)
 os:List (Nat×Bool×Ty)
 mp:Option MSh
@[reducible] def TDen:List (Nat×Sh)->Type
 |[]=>Unit
 |(_,.v τ)::r=>τ.den×TDen r
 |(_,.r τ)::r=>τ.den×TDen r
 |(_,.c _)::r=>TDen r
 |(_,.k _ _ τ)::r=>τ.den×TDen r
 |(_,.p _ _ _ _)::r=>Int×TDen r
 |(_,.u _ _ _ _ e)::r=>(Int×List e.den)×TDen r
@[reducible] def ODen:List (Nat×Bool×Ty)->Type
 |[]=>Unit
 |(_,_,τ)::r=>τ.den×ODen r
@[reducible] def KDen:Option MSh->Type
 |none=>Unit
 |some ⟨_,_,_,none⟩=>List (Int×Int)
 |some ⟨_,_,_,some _⟩=>List (Int×Int)×List Int
@[reducible] def qdp.Den(sk:qdp):Type:=TDen sk.ts×ODen sk.os×KDen sk.mp
def qev(t:Nat)(a:AV):AV:=bif Nat.ble 20000000 t then .gh t a else a
def qcR(t:Nat):Option AV->Option AV
 |some (.gh n a)=>bif Nat.ble 20000000 t then(bif Nat.beq n t then some a else none)else some (.gh n a)
 |x=>bif Nat.ble 20000000 t then none else x
def qdl:(l:List (Nat×Sh))->TDen l->List (Nat×AV)
 |[],_=>[]
 |(t,.v τ)::r,d=>(t,qev t (.val τ d.1))::qdl r d.2
 |(t,.r τ)::r,d=>(t,qev t (.ref τ d.1))::qdl r d.2
 |(t,.c a)::r,d=>(t,qev t a)::qdl r d
 |(t,.k g i τ)::r,d=>(t,qev t (.fn g .nil (.cons (.ptr i []) (.cons (.ref τ d.1) .nil))))::qdl r d.2
 |(t,.p vw i q1 q2)::r,d=>(t,qev t (bif vw then .view i (q1 ++ .I d.1::q2)else .ptr i (q1 ++ .I d.1::q2)))::qdl r d.2
 |(t,.u i q1 q2 tid e)::r,d=>(t,qev t (.upd i (q1 ++ .I d.1.1::q2) tid e d.1.2))::qdl r d.2
def qlN:(l:List (Nat×Bool×Ty))->ODen l->List (Nat×Option Obj)
 |[],_=>[]
 |(i,b,τ)::r,d=>(i,some ⟨b,τ,d.1⟩)::qlN r d.2
def fillK:(m:Option MSh)->KDen m->Option Ms
 |none,_=>none
 |some ⟨kt,vt,tm,none⟩,d=>some ⟨kt,vt,tm,d,none,none⟩
 |some ⟨kt,vt,tm,some ti⟩,d=>some ⟨kt,vt,tm,d.1,some (ti,d.2),none⟩
def qdp.fill(sk:qdp)(d:sk.Den):St:=⟨qdl sk.ts d.1,qlN sk.os d.2.1,fillK sk.mp d.2.2⟩
def qq.same:qq->qq->Bool
 |.L,.L=>true
 |.R,.R=>true
 |_,_=>false
def qO:List qq->List qq->Bool
 |[],[]=>true
 |a::p,b::q=>a.same b&&qO p q
 |_,_=>false
def AV.same:AV->AV->Bool
 |.dead,_=>true
 |.ptr i p,.ptr j q=>Nat.beq i j&&qO p q
 |.view i p,.view j q=>Nat.beq i j&&qO p q
 |.fn f a b,.fn g c d=>Nat.beq f g&&a.same c&&b.same d
 |.nil,.nil=>true
 |.cons a b,.cons c d=>a.same c&&b.same d
 |.gh n a,.gh m b=>Nat.beq n m&&a.same b
 |.cv i f n,.cv j g m=>Nat.beq i j&&(Nat.beq f g&&Nat.beq n m)
 |_,_=>false
def isZ:Int->Bool
 |.ofNat n=>Nat.beq n 0
 |.negSucc _=>false
def qin:List qq->List qq->Bool
 |[],[]=>true
 |.L::p,.L::q=>qin p q
 |.R::p,.R::q=>qin p q
 |.I a::p,.I b::q=>isZ a&&(isZ b&&qin p q)
 |_,_=>false
def qhh:List qq->List qq->List qq->Option Int
 |[],q2,.I i::p=>bif qin q2 p then some i else none
 |.L::q1,q2,.L::p=>qhh q1 q2 p
 |.R::q1,q2,.R::p=>qhh q1 q2 p
 |_,_,_=>none
def rowAt(s:St)(i:Nat)(q1 q2:List qq)(tid:Nat)(e:Ty):Option AV->Option (Int×List e.den)
 |some (.upd j p t e' l)=>bif Nat.beq j i then(match qhh q1 q2 p,qA (.list false t e') (.list false tid e) l with
  |some n,some l=>some (n,l)
  |_,_=>none)else none
 |some (.view j p)=>bif Nat.beq j i&&e.noFn then(match qhh q1 q2 p,s.obj j with
  |some n,some o=>qa1 o.τ o.x p λσ y=>qa (qA σ (.list true tid e) y) λl=>some (n,l)
  |_,_=>none)else none
 |_=>none
def qfM(s:St):(l:List (Nat×Sh))->Option (TDen l)
 |[]=>some ()
 |(t,.v τ)::r=>match qcR t (s.get t)with
  |some (.val σ x)=>match qA σ τ x,qfM s r with
   |some y,some d=>some (y,d)
   |_,_=>none
  |_=>none
 |(t,.r τ)::r=>match qcR t (s.get t)with
  |some (.ref σ x)=>match qA σ τ x,qfM s r with
   |some y,some d=>some (y,d)
   |_,_=>none
  |_=>none
 |(t,.c a)::r=>match qcR t (s.get t)with
  |some b=>bif a.same b then qfM s r else none
  |none=>none
 |(t,.k g i τ)::r=>match qcR t (s.get t)with
  |some (.fn f .nil (.cons (.ptr j []) (.cons (.ref σ x) .nil)))=>bif Nat.beq f g&&Nat.beq j i then(match qA σ τ x,qfM s r with
   |some y,some d=>some (y,d)
   |_,_=>none)else none
  |_=>none
 |(t,.p vw i q1 q2)::r=>match qcR t (s.get t)with
  |some (.ptr j p)=>bif !vw&&Nat.beq j i then(match qhh q1 q2 p,qfM s r with
   |some n,some d=>some (n,d)
   |_,_=>none)else none
  |some (.view j p)=>bif vw&&Nat.beq j i then(match qhh q1 q2 p,qfM s r with
   |some n,some d=>some (n,d)
   |_,_=>none)else none
  |_=>none
 |(t,.u i q1 q2 tid e)::r=>match rowAt s i q1 q2 tid e (qcR t (s.get t)),qfM s r with
  |some y,some d=>some (y,d)
  |_,_=>none
def getO(s:St):(l:List (Nat×Bool×Ty))->Option (ODen l)
 |[]=>some ()
 |(i,b,τ)::r=>match s.obj i with
  |some o=>bif (o.row==b)then(match qA o.τ τ o.x,getO s r with
   |some y,some d=>some (y,d)
   |_,_=>none)else none
  |none=>none
def AV.within(os:List (Nat×Bool×Ty)):AV->Bool
 |.ptr i _=>(lk os i).isSome
 |.view i _=>(lk os i).isSome
 |.upd _ _ _ _ _=>false
 |.cut _ _ _ _=>false
 |.fn _ a b=>a.within os&&b.within os
 |.cons a b=>a.within os&&b.within os
 |.gh _ a=>a.within os
 |_=>true
def Sh.within(os:List (Nat×Bool×Ty)):Sh->Bool
 |.c a=>a.within os
 |.k _ i _=>(lk os i).isSome
 |.p _ i _ _=>(lk os i).isSome
 |.u i _ _ _ _=>(lk os i).isSome
 |_=>true
def getK(s:St):(m:Option MSh)->Option (KDen m)
 |none=>some ()
 |some ⟨kt,vt,tm,none⟩=>match s.mp with
  |some m=>bif Nat.beq m.kt kt&&Nat.beq m.vt vt&&tm.all (λt=>qdH t m.tm)then some m.kv else none
  |none=>none
 |some ⟨kt,vt,tm,some ti⟩=>match s.mp with
  |some m=>match m.it with
   |some (ti',lf)=>bif Nat.beq m.kt kt&&Nat.beq m.vt vt&&tm.all (λt=>qdH t m.tm)&&ti.all (λt=>qdH t ti')then some (m.kv,lf)else none
   |none=>none
  |none=>none
def qdp.get(sk:qdp)(s:St):Option sk.Den:=
 bif sk.ts.all λx=>x.2.within sk.os then(match qfM s sk.ts,getO s sk.os,getK s sk.mp with
  |some a,some b,some c=>some (a,b,c)
  |_,_,_=>none)else none
inductive X where
 |norm
 |exit (id:Nat)
 |ret
@[reducible] def Outs:List (X×qdp)->Type
 |[]=>Empty
 |[a]=>a.2.Den
 |a::b::r=>a.2.Den ⊕ Outs (b::r)
def qbk{α β R:Type}(o:α ⊕ β)(k:α->Option R)(l:β->Option R):Option R:=
 match o with
 |.inl a=>k a
 |.inr b=>l b
def outK{R:Type}(k:X->St->Option R):(outs:List (X×qdp))->Outs outs->Option R
 |[],_=>none
 |[a],d=>k a.1 (a.2.fill d)
 |a::b::r,d=>qbk d (λd=>k a.1 (a.2.fill d)) (λd=>outK k (b::r) d)
def X.same:X->X->Bool
 |.norm,.norm=>true
 |.ret,.ret=>true
 |.exit i,.exit j=>Nat.beq i j
 |_,_=>false
def qjF(e:X)(s:St):(outs:List (X×qdp))->Option (Outs outs)
 |[]=>none
 |[a]=>bif a.1.same e then a.2.get s else none
 |a::b::r=>bif a.1.same e then(match a.2.get s with|some d=>some (.inl d)|none=>none)
   else match qjF e s (b::r)with|some d=>some (.inr d)|none=>none
structure j7 where
 ins:qdp
 outs:List (X×qdp)
 g:Nat->ins.Den->Option (Outs outs)
structure ql9 where
 ins:qdp
 outs:List (X×qdp)
 w:Nat->ins.Den->(Outs outs->Prop)->Option Unit
structure Iter where
 ps:List jT
 a:Ty
 g:PDens ps->Option (List a.den)
structure qdJ where
 a:Ty
 tl:List Nat
 ps:List jT
 outs:List X
 g:Nat->List a.den->PDens ps->Option (X×MDens ps)
def qbK:(ps:List jT)->PDens ps->MDens ps
 |[],_=>()
 |.v _::ps,d=>qbK ps d.2
 |.r _::ps,d=>qbK ps d.2
 |.c _::ps,d=>qbK ps d.2
 |.t _ _::ps,d=>qbK ps d.2
 |.gm _::ps,d=>qbK ps d.2
 |.cm _ _::ps,d=>(d.1,qbK ps d.2)
 |.m _::ps,d=>(d.1,qbK ps d.2)
 |.mr _ _::ps,d=>(d.1,qbK ps d.2)
def j3:(ps:List jT)->PDens ps->MDens ps->PDens ps
 |[],_,_=>()
 |.v _::ps,d,m=>(d.1,j3 ps d.2 m)
 |.r _::ps,d,m=>(d.1,j3 ps d.2 m)
 |.c _::ps,d,m=>(d.1,j3 ps d.2 m)
 |.t _ _::ps,d,m=>(d.1,j3 ps d.2 m)
 |.gm _::ps,d,m=>(d.1,j3 ps d.2 m)
 |.cm _ _::ps,d,m=>(m.1,j3 ps d.2 m.2)
 |.m _::ps,d,m=>(m.1,j3 ps d.2 m.2)
 |.mr _ _::ps,d,m=>(m.1,j3 ps d.2 m.2)
def pickK{R:Type}:List X->X->(X->Option R)->Option R
 |[],_,_=>none
 |x::l,e,k=>bif x.same e then k x else pickK l e k
structure qdB where
 τ:Ty
 rs:List RTy
 g:τ.den×Unit->Option (RDens rs×(τ.den×Unit))
 q:List qq
 ts:List Nat
def qdB.prim(k:qdB):jE:=⟨[.m k.τ],k.rs,k.g⟩
structure qjc where
 rest:List jT
 pos:Nat
 τ:Ty
 g:PDens rest->τ.den->Option τ.den
structure SelfP where
 f:Nat
 n:Nat
 m:Nat
 T:Nat
 p:jE
structure Inl where
 fop:Operand
 ops:List Operand
 ins:qdp
 outs:qdp
 g:ins.Den->Option outs.Den
structure XQ where
 T:Nat
 et:Nat
 fPop:Nat
 fPush:Nat
 pop:List (XK×XK)->Option ((XK×XK)×List (XK×XK))
 push:List (XK×XK)->XK×XK->Option (List (XK×XK))
def AV.isVw:AV->Bool
 |.view _ _=>true
 |_=>false
structure XS where
 f:Nat
 g:Nat
 τ:Ty
 tid:Nat
 e:Ty
 sort:τ.den->List e.den->Option (List e.den)
structure jG where
 nt:Nat
 ty:List (Nat×Ty)
 site:List (Nat×Ty)
 prims:List (Nat×jE)
 loops:List (Nat×j7)
 maps:List (Nat×Nat×Nat):=[]
 enum:List Nat:=[]
 iters:List (Nat×Iter):=[]
 rloops:List (Nat×qdJ):=[]
 makers:List (Nat×qeV):=[]
 alts:List (Nat×jE):=[]
 keeps:List (Nat×qdB):=[]
 mas:List (Nat×qjc):=[]
 joins:List (Nat×qdp):=[]
 self:Option SelfP:=none
 takes:List (Nat×Nat):=[]
 inl:List (Nat×Inl):=[]
 xkeys:List Nat:=[]
 xque:Option XQ:=none
 xsort:Option XS:=none
 wloops:List (Nat×ql9):=[]
def qgp(τ:Option Ty):Value->Option AV
 |.int k n=>some (.val (.int k) n)
 |.bool b=>some (.val .bool b)
 |.slice none 0 0=>match τ with
  |some (.list _ tid e)=>some (.val (.list false tid e) [])
  |_=>none
 |.pointer none=>match τ with
  |some (.ptr e)=>some (.val (.ptr e) none)
  |_=>none
 |.nilFunc=>some .dead
 |.nilIface=>some .dead
 |.map none=>some .dead
 |_=>none
def qI(s:St)(τ:Option Ty):Operand->Option AV
 |.tmp t=>s.get t
 |.const v=>qgp τ v
 |.func f=>some (.fn f .nil .nil)
 |.global _=>none
def qhB:(τ:Ty)->τ.den->List qq->Option (Σ σ:Ty,σ.den)
 |.pair a b,x,p=>match p with
  |[]=>some ⟨.pair a b,x⟩
  |.L::q=>qhB a x.1 q
  |.R::q=>qhB b x.2 q
  |_=>none
 |.str t,x,p=>match p with
  |[]=>some ⟨.str t,x⟩
  |s::q=>qhB t x (s::q)
 |t,x,p=>match p with
  |[]=>some ⟨t,x⟩
  |_=>none
def AV.frozen(id:Nat)(o:Obj):AV->AV
 |.cons a b=>.cons (a.frozen id o) (b.frozen id o)
 |.fn f a b=>.fn f (a.frozen id o) (b.frozen id o)
 |.ptr i p=>bif Nat.beq i id then(bif o.row then .dead else match qhB o.τ o.x p with
   |some y=>.ref y.1.fz (qhl y.1 y.2)
   |none=>.dead)else .ptr i p
 |.view i p=>bif Nat.beq i id then(match qhB o.τ o.x p with
   |some y=>.val y.1.fz (qhl y.1 y.2)
   |none=>.dead)else .view i p
 |.upd _ _ _ _ _=>.dead
 |.cut i p z lo=>bif Nat.beq i id then .dead else .cut i p z lo
 |.gh n a=>.gh n (a.frozen id o)
 |a=>a
def St.freeze(s:St)(id:Nat):St:=
 match s.obj id with
 |some o=>⟨s.ts.map λx=>(x.1,x.2.frozen id o),(id,none)::s.os,s.mp⟩
 |none=>s
def St.freezeAll(s:St):List Nat->St
 |[]=>s
 |i::r=>(s.freeze i).freezeAll r
def qb8{R:Type}(s:St)(a:AV)(τ:Ty)(k:τ.den->Option R):Option R:=
 match a with
 |.val σ x=>qa (qA σ τ x) k
 |.view id p=>match s.obj id with
  |some o=>qa1 o.τ o.x p λσ y=>qa (qA σ.fz τ (qhl σ y)) k
  |none=>none
 |.ref σ x=>qa (qA (.ptr σ) τ (some x)) k
 |.ptr id p=>match s.obj id with
  |some o=>bif o.row then none else(match qhB o.τ o.x p with
   |some y=>qa (qA (.ptr y.1.fz) τ (some (qhl y.1 y.2))) k
   |none=>none)
  |none=>none
 |_=>none
def qhF{R:Type}(s:St)(a:AV)(τ:Ty)(k:τ.den->Option R):Option R:=
 match a with
 |.ref σ x=>qa (qA σ τ x) k
 |.ptr id p=>match s.obj id with
  |some o=>bif o.row then none else(match qhB o.τ o.x p with
   |some y=>qa (qA y.1.fz τ (qhl y.1 y.2)) k
   |none=>none)
  |none=>none
 |.val (.ptr σ) x=>qa x λy=>qa (qA σ τ y) k
 |_=>none
def AV.touches:AV->List Nat
 |.view i _=>[i]
 |.upd i _ _ _ _=>[i]
 |.cut i _ _ _=>[i]
 |.ptr i _=>[i]
 |.cons a b=>a.touches++b.touches
 |.fn _ a b=>a.touches++b.touches
 |_=>[]
def AV.list:AV->List AV
 |.cons a b=>a::b.list
 |_=>[]
def AV.isTup:AV->Bool
 |.cons _ b=>b.isTup
 |.nil=>true
 |_=>false
def qif{R:Type}(s:St):(ps:List jT)->List AV->(PDens ps->Option R)->Option R
 |[],[],k=>k ()
 |.v τ::ps,a::l,k=>qb8 s a τ λx=>qif s ps l λd=>k (x,d)
 |.r τ::ps,a::l,k=>qhF s a τ λx=>qif s ps l λd=>k (x,d)
 |_,_,_=>none
def qkt(r:Ty):(rs:List RTy)->RDens rs->Option r.den
 |[.v τ],d=>qA τ r d.1
 |_,_=>none
def jT.noT:jT->Bool
 |.t _ _=>false
 |.gm _=>false
 |_=>true
def jT.reads:jT->Bool
 |.v _=>true
 |.r _=>true
 |_=>false
def clos1(cfg:jG)(s:St)(f:Nat)(first caps:AV)(a r:Ty)(x:a.den):Option r.den:=
 match lk cfg.prims f with
 |some p=>bif p.ps.all jT.reads&&r.isFlat&&first.isTup&&caps.isTup then qif s p.ps (first.list ++ .val a x::caps.list) λd=>qa (p.g d) λy=>qkt r p.rs y.1 else none
 |none=>none
def clos2(cfg:jG)(s:St)(f:Nat)(first caps:AV)(a b r:Ty)(x:a.den)(y:b.den):Option r.den:=
 match lk cfg.prims f with
 |some p=>bif p.ps.all jT.reads&&r.isFlat&&first.isTup&&caps.isTup then qif s p.ps (first.list ++ .val a x :: .val b y::caps.list) λd=>qa (p.g d) λy=>qkt r p.rs y.1 else none
 |none=>none
def snapF{R:Type}(cfg:jG)(s:St)(a:AV)(τ:Ty)(k:τ.den->Option R):Option R:=
 match a with
 |.fn f first caps=>match τ,k with
  |.fn b r,k=>bif (lk cfg.prims f).isSome&&b.isFz&&r.isFz then k (clos1 cfg s f first caps b r)else none
  |.fn2 b c r,k=>bif (lk cfg.prims f).isSome&&b.isFz&&c.isFz&&r.isFz then k (clos2 cfg s f first caps b c r)else none
  |_,_=>none
 |a=>qb8 s a τ k
def qbP{R:Type}(cfg:jG)(s:St):(ps:List jT)->List AV->(PDens ps->Option R)->Option R
 |[],[],k=>k ()
 |.v τ::ps,a::l,k=>snapF cfg s a τ λx=>qbP cfg s ps l λd=>k (x,d)
 |.r τ::ps,a::l,k=>qhF s a τ λx=>qbP cfg s ps l λd=>k (x,d)
 |.c f::ps,a::l,k=>match a with
  |.fn g .nil .nil=>bif Nat.beq g f then qbP cfg s ps l λd=>k ((),d)else none
  |_=>none
 |.m τ::ps,a::l,k=>match a with
  |.ptr id []=>match s.obj id with
   |some o=>bif o.row then none else qa (qA o.τ τ o.x) λx=>qbP cfg s ps l λd=>k (x,d)
   |none=>none
  |_=>none
 |.gm τ::ps,a::l,k=>match a with
  |.ptr id []=>match s.obj id with
   |some o=>bif o.row then none else qa (qA o.τ τ o.x) λx=>qbP cfg s ps l λd=>k (x,d)
   |none=>none
  |_=>none
 |.cm f τ::ps,a::l,k=>match a with
  |.fn g .nil (.cons (.ptr id []) .nil)=>bif Nat.beq g f then(match s.obj id with
   |some o=>bif o.row then none else qa (qA o.τ τ o.x) λx=>qbP cfg s ps l λd=>k (x,d)
   |none=>none)else none
  |_=>none
 |.t tid e::ps,a::l,k=>match a with
  |.view id []=>match s.obj id with
   |some o=>bif o.row then qa (qA o.τ (.list true tid e) o.x) λx=>qbP cfg s ps l λd=>k (x,d)else none
   |none=>none
  |_=>none
 |.mr tid e::ps,a::l,k=>match a with
  |.view id []=>match s.obj id with
   |some o=>bif o.row then qa (qA o.τ (.list true tid e) o.x) λx=>qbP cfg s ps l λd=>k (x,d)else none
   |none=>none
  |_=>none
 |_,_,_=>none
def qt:List jT->List AV->List Nat
 |.v _::ps,a::l=>a.touches++qt ps l
 |.r _::ps,a::l=>a.touches++qt ps l
 |.c _::ps,_::l=>qt ps l
 |.t _ _::ps,_::l=>qt ps l
 |.gm _::ps,_::l=>qt ps l
 |.cm _ _::ps,_::l=>qt ps l
 |.m _::ps,_::l=>qt ps l
 |.mr _ _::ps,_::l=>qt ps l
 |_,_=>[]
def AV.name:AV->List Nat
 |.ptr i _=>[i]
 |.view i _=>[i]
 |_=>[]
def AV.capName:AV->List Nat
 |.fn _ _ (.cons b _)=>b.name
 |_=>[]
def qE:List jT->List AV->List Nat
 |.v _::ps,_::l=>qE ps l
 |.r _::ps,_::l=>qE ps l
 |.c _::ps,_::l=>qE ps l
 |.t _ _::ps,a::l=>a.name++qE ps l
 |.gm _::ps,a::l=>a.name++qE ps l
 |.cm _ _::ps,a::l=>a.capName++qE ps l
 |.m _::ps,a::l=>a.name++qE ps l
 |.mr _ _::ps,a::l=>a.name++qE ps l
 |_,_=>[]
def jY(n:Nat):List Nat->Bool
 |[]=>false
 |m::r=>Nat.beq m n||jY n r
def apart:List Nat->List Nat->Bool
 |[],_=>true
 |m::r,l=>!jY m r && !jY m l&&apart r l
def qx(s:St):(ps:List jT)->List AV->MDens ps->St
 |.v _::ps,_::l,d=>qx s ps l d
 |.r _::ps,_::l,d=>qx s ps l d
 |.c _::ps,_::l,d=>qx s ps l d
 |.m τ::ps,a::l,d=>match a with
  |.ptr id _=>qx ((s.killIf (AV.stale id false)).setObj id (some ⟨false,τ,d.1⟩)) ps l d.2
  |_=>qx s ps l d.2
 |.t _ _::ps,a::l,d=>match a with
  |.view id _=>qx ((s.kill id).setObj id none) ps l d
  |_=>qx s ps l d
 |.gm _::ps,a::l,d=>match a with
  |.ptr id _=>qx ((s.kill id).setObj id none) ps l d
  |_=>qx s ps l d
 |.cm _ τ::ps,a::l,d=>match a with
  |.fn _ _ (.cons (.ptr id _) _)=>qx ((s.killIf (AV.stale id false)).setObj id (some ⟨false,τ,d.1⟩)) ps l d.2
  |_=>qx s ps l d.2
 |.mr tid e::ps,a::l,d=>match a with
  |.view id _=>qx ((s.killIf (AV.stale id true)).setObj id (some ⟨true,.list true tid e,d.1⟩)) ps l d.2
  |_=>qx s ps l d.2
 |_,_,_=>s
def qbd(nn:Bool)(n:Nat):Nat:=bif nn then 4000000+n else 7000000+n
def qfz(id:Nat)(nn:Bool):Bool:=bif nn then Nat.ble 4000000 id&&Nat.blt id 7000000 else Nat.ble 7000000 id&&Nat.blt id 10000000
def jI(s:St):(n:Nat)->(rs:List RTy)->RDens rs->St×AV
 |_,[],_=>(s,.nil)
 |n,.v τ::rs,d=>let q:=jI s (n+1) rs d.2;(q.1,.cons (.val τ d.1) q.2)
 |n,.own tid e::rs,d=>let q:=jI ((s.kill n).setObj n (some ⟨true,.list true tid e,d.1⟩)) (n+1) rs d.2;(q.1,.cons (.view n []) q.2)
 |n,.optr τ::rs,d=>let q:=jI ((s.kill n).setObj n (some ⟨false,τ,d.1⟩)) (n+1) rs d.2;(q.1,.cons (.ptr n []) q.2)
 |n,.sure nn tid e::rs,d=>let q:=jI ((s.kill (qbd nn n)).setObj (qbd nn n) (some ⟨true,.list true tid e,d.1⟩)) (n+1) rs d.2;(q.1,.cons (.view (qbd nn n) []) q.2)
 |n,.ownv τ::rs,d=>let q:=jI ((s.kill n).setObj n (some ⟨true,τ,d.1⟩)) (n+1) rs d.2;(q.1,.cons (.view n []) q.2)
def AV.lone:AV->AV
 |.cons a .nil=>a
 |a=>a
def qgt{R:Type}(cfg:jG)(s:St)(dst:Option Nat)(p:jE)(args:List AV)(k:St->Option R):Option R:=
 bif apart (qE p.ps args) (qt p.ps args)&&Nat.blt p.rs.length 1000 then
  qbP cfg s p.ps args λd=>qa (p.g d) λy=>
   let s0:=bif p.rs.all RTy.closed&&p.ps.all jT.closed then s else s.freezeAll (qt p.ps args)
   let q:=jI (qx (s0.killIf AV.isUpd) p.ps args y.2) (1000*(dst.getD 0+1)) p.rs y.1
   k (q.1.setDst dst q.2.lone)
 else none
def altK{R α:Type}(o:Option α)(f:α->Option R)(g:Option R):Option R:=
 match o with
 |some y=>f y
 |none=>g
def qm8{R:Type}(cfg:jG)(s:St)(dst:Option Nat)(p:jE)(args:List AV)(alt:Option R)(k:St->Option R):Option R:=
 bif apart (qE p.ps args) (qt p.ps args)&&Nat.blt p.rs.length 1000 then
  qbP cfg s p.ps args λd=>altK (p.g d) (λy=>
   let s0:=bif p.rs.all RTy.closed&&p.ps.all jT.closed then s else s.freezeAll (qt p.ps args)
   let q:=jI (qx (s0.killIf AV.isUpd) p.ps args y.2) (1000*(dst.getD 0+1)) p.rs y.1
   k (q.1.setDst dst q.2.lone)) alt
 else none
def qm7{R:Type}(cfg:jG)(s:St)(dst:Option Nat)(m:qeV)(args:List AV)(k:St->Option R):Option R:=
 bif apart (qE m.p.ps args) (qt m.p.ps args)&&Nat.blt m.p.rs.length 1000 then
  qbP cfg s m.p.ps args λd=>qa (m.p.g d) λy=>
   let q:=jI (qx ((s.freezeAll (qt m.p.ps args)).killIf AV.isUpd) m.p.ps args y.2) (1000*(dst.getD 0+1)) m.p.rs y.1
   k (q.1.setDst dst (.fn m.f .nil q.2))
 else none
def w64(n:Int):Int:=IntKind.i64.wrap n
def negK{R:Type}(a:Int)(k:Option R):Option R:=if a<0 then none else k
def qft(op:BinOp)(k:IntKind)(x y:Int):Int:=
 match op with
 |.and=>k.wrap (BitVec.ofInt k.bits x &&& BitVec.ofInt k.bits y).toNat
 |.or=>k.wrap (BitVec.ofInt k.bits x ||| BitVec.ofInt k.bits y).toNat
 |.xor=>k.wrap (BitVec.ofInt k.bits x ^^^ BitVec.ofInt k.bits y).toNat
 |_=>k.wrap (BitVec.ofInt k.bits x &&& ~~~ BitVec.ofInt k.bits y).toNat
def shlI(k:IntKind)(x y:Int):Int:=k.wrap (x*2^(min y.toNat k.bits))
def shrI(k:IntKind)(x y:Int):Int:=x.fdiv (2^(min y.toNat k.bits))
def eqL(a b:List Int):Bool:=a==b
def qdh:Ty->Bool
 |.int _=>true
 |.bool=>true
 |.pair (.int _) b=>qdh b
 |.pair .bool b=>qdh b
 |_=>false
def eqF:(τ:Ty)->τ.den->τ.den->Bool
 |.int _,a,b=>@BEq.beq Int _ a b
 |.bool,a,b=>@BEq.beq Bool _ a b
 |.pair s t,a,b=>eqF s a.1 b.1&&eqF t a.2 b.2
 |_,_,_=>false
def binK{R:Type}(op:BinOp)(tt:Option Ty)(x y:AV)(k:AV->Option R):Option R:=
 match x,y with
 |.val (.int i) a,.val (.int j) b=>match op with
   |.shl=>negK b (k (.val (.int i) (shlI i a b)))
   |.shr=>negK b (k (.val (.int i) (shrI i a b)))
   |op=>bif (i==j)then(match op with
    |.add=>k (.val (.int i) (i.wrap (a+b)))
    |.sub=>k (.val (.int i) (i.wrap (a-b)))
    |.mul=>k (.val (.int i) (i.wrap (a*b)))
    |.quo=>nzK b (k (.val (.int i) (i.wrap (a.tdiv b))))
    |.rem=>nzK b (k (.val (.int i) (a.tmod b)))
    |.eql=>k (.val .bool (a==b))
    |.neq=>k (.val .bool (a !=b))
    |.lss=>k (.val .bool (decide (a<b)))
    |.leq=>k (.val .bool (decide (a<=b)))
    |.gtr=>k (.val .bool (decide (a>b)))
    |.geq=>k (.val .bool (decide (a>=b)))
    |op=>k (.val (.int i) (qft op i a b)))else none
 |.val .bool a,.val .bool b=>bif (decide (tt=some .bool))then(match op with
   |.eql=>k (.val .bool (a==b))
   |.neq=>k (.val .bool (!(a==b)))
   |_=>none)else none
 |.val (.arr n (.int i)) a,.val (.arr m (.int j)) b=>bif (decide (tt=some (.arr n (.int i)))&&Nat.beq n m&&(i==j))then(match op with
   |.eql=>k (.val .bool (eqL a b))
   |.neq=>k (.val .bool (!(eqL a b)))
   |_=>none)else none
 |.val (.str τ) a,.val (.str σ) b=>bif (decide (tt=some (.str τ))&&qdh τ)then qa (qA σ τ b) (λb=>match op with
   |.eql=>k (.val .bool (eqF τ a b))
   |.neq=>k (.val .bool (!(eqF τ a b)))
   |_=>none)else none
 |_,_=>none
def qcc:Option Ty->Bool
 |some (.list _ _ _)=>true
 |_=>false
def qF(nt:Nat):Option Nat->Bool
 |none=>true
 |some d=>Nat.blt d nt
def unK{R:Type}(op:UnOp)(x:AV)(k:AV->Option R):Option R:=
 match op,x with
 |.not,.val .bool a=>k (.val .bool (!a))
 |.neg,.val (.int i) a=>k (.val (.int i) (i.wrap (0-a)))
 |_,_=>none
def qjM{R:Type}(s:St)(a:AV)(k:Nat->Option R):Option R:=
 match a with
 |.val (.list _ _ _) l=>k l.length
 |.view id p=>match s.obj id with
  |some o=>qa1 o.τ o.x p λσ y=>match σ,y with
   |.list _ _ _,l=>k l.length
   |_,_=>none
  |none=>none
 |.upd _ _ _ _ l=>k l.length
 |_=>none
def qg2{R:Type}(s:St)(a:AV)(e:Ty)(k:List e.den->Option R):Option R:=
 match a with
 |.val (.list o tid σ) l=>qa (qA (.list o tid σ) (.list o tid e) l) k
 |.view id p=>match s.obj id with
  |some o=>qa1 o.τ o.x p λσ y=>match σ,y with
   |.list b tid σ,l=>qa (qA (.list b tid σ) (.list b tid e) l) k
   |_,_=>none
  |none=>none
 |.upd _ _ tid σ l=>qa (qA (.list false tid σ) (.list false tid e) l) k
 |_=>none
def qea(s:St)(parts:List (Nat×AV))(a:Ty)(n:Nat):Option (St×a.den):=
 match lk parts n with
 |none=>some (s,a.zero)
 |some (.val σ x)=>match qA σ a x with|some y=>some (s,y)|none=>none
 |some (.ref σ x)=>match qA (.ptr σ) a (some x)with|some y=>some (s,y)|none=>none
 |some (.view id [])=>match s.obj id with
  |some o=>bif o.row then(match qA o.τ.fz a (qhl o.τ o.x)with
    |some y=>some (s.freeze id,y)
    |none=>none)else none
  |none=>none
 |_=>none
def qjJ(s:St)(parts:List (Nat×AV)):(τ:Ty)->(n:Nat)->Option (St×τ.den)
 |.pair a b,n=>match qea s parts a n with
  |some (s,x)=>match qjJ s parts b (n+1)with
   |some (s,y)=>some (s,(x,y))
   |none=>none
  |none=>none
 |a,n=>qea s parts a n
def qiu(s:St)(parts:List (Nat×AV))(e:Ty):(n len:Nat)->Option (St×List e.den)
 |_,0=>some (s,[])
 |n,len+1=>match qea s parts e n with
  |some (s,x)=>match qiu s parts e (n+1) len with
   |some (s,l)=>some (s,x::l)
   |none=>none
  |none=>none
def St.newObj(s:St)(id:Nat)(row:Bool)(τ:Ty)(x:τ.den):St:=(s.kill id).setObj id (some ⟨row,τ,x⟩)
def qf8(s:St)(parts:List (Nat×AV))(a:Ty)(n:Nat):Option (St×a.den):=
 bif a.isFz then qea s parts a n else match lk parts n with
 |none=>some (s,a.zero)
 |some (.view id [])=>match s.obj id with
  |some o=>bif o.row then(match qA o.τ a o.x with
    |some y=>some ((s.kill id).setObj id none,y)
    |none=>none)else none
  |none=>none
 |_=>none
def qjI(s:St)(parts:List (Nat×AV)):(τ:Ty)->(n:Nat)->Option (St×τ.den)
 |.pair a b,n=>match qf8 s parts a n with
  |some (s,x)=>match qjI s parts b (n+1)with
   |some (s,y)=>some (s,(x,y))
   |none=>none
  |none=>none
 |a,n=>qf8 s parts a n
def qeE{R:Type}(op:BinOp)(b:Bool)(k:Bool->Option R):Option R:=
 match op with
 |.eql=>k b
 |.neq=>k (!b)
 |_=>none
def qcW:Operand->Bool
 |.const (.slice none 0 0)=>true
 |_=>false
def qd4(s:St)(id:Nat)(q:List qq):Option (Nat×List qq):=
 match s.obj id with
 |some o=>bif o.row&&q.isEmpty then none else some (id,q)
 |none=>none
def qcy(s:St):List jT->AV->AV->List AV->Option (Nat×List qq)
 |[.mr _ _],.nil,.nil,[.view id q]=>qd4 s id q
 |[.mr _ _,.c f],.nil,.nil,[.view id q,.fn g .nil .nil]=>bif Nat.beq g f then qd4 s id q else none
 |_,_,_,_=>none
def qfc{R:Type}(s:St)(dst:Option Nat)(tid:Nat)(e:Ty)(g:List e.den×Unit->Option (Unit×(List e.den×Unit)))(id:Nat)(path:List qq)(k:St->Option R):Option R:=
 match s.obj id with
 |some o=>bif e.isFlat && !(o.row&&path.isEmpty)then qa1 o.τ o.x path λσ y=>qa (qA σ (.list true tid e) y) λl=>qa (g (l,())) λr=>
   qaZ o.τ o.x path (.list true tid e) r.2.1 λz=>k (((s.killIf (AV.stale id o.row)).setObj id (some ⟨o.row,o.τ,z⟩)).setDst dst .nil)else none
 |none=>none
def qg5{R:Type}(s:St)(dst:Option Nat)(p:jE)(id:Nat)(path:List qq)(k:St->Option R):Option R:=
 match p with
 |⟨[.mr tid e],[],g⟩=>qfc s dst tid e g id path k
 |⟨[.mr tid e,.c _],[],g⟩=>qfc s dst tid e (λd=>g (d.1,((),()))) id path k
 |_=>none
def qne(τ:Ty)(i:Nat):Option (List qq):=
 match τ with
 |.str t=>bif qaD t i then some (qbF t i)else none
 |_=>none
def qiY{R:Type}(s:St)(T:Option Ty)(a:AV)(i:Nat)(k:AV->Option R):Option R:=
 match T with
 |none=>none
 |some T=>match qne T i with
  |none=>none
  |some q=>match a with
   |.ref (.str t) x=>bif (decide (Ty.str t=T))then qjD t x q λσ y=>k (.ref σ y)else none
   |.ptr id p=>match s.obj id with
    |some o=>bif o.row&&p.isEmpty then none else match qci o.τ p with
     |some τ=>bif (decide (τ.fz=T)) && !q.isEmpty then k (.ptr id (p++q))else none
     |none=>none
    |none=>none
   |_=>none
def qfL{R:Type}(s:St)(T:Option Ty)(a:AV)(i:Int)(k:AV->Option R):Option R:=
 match a with
 |.val (.list _o tid e) l=>bif (decide (T=some (.list false tid e.fz)))then qs l i λy=>k (.ref e y)else none
 |.ref (.arr n e) l=>bif (decide (T=some (.arr n e)))then qs l i λy=>k (.ref e y)else none
 |.view id p=>match s.obj id with
  |some o=>qa1 o.τ o.x p λσ y=>match σ,y with
   |.list own tid e,l=>bif own&&(decide (T=some (.list false tid e.fz)))then inR i l.length (k (.ptr id (p++[.I i])))else none
   |_,_=>none
  |none=>none
 |.ptr id p=>match s.obj id with
  |some o=>bif o.row&&p.isEmpty then none else match qci o.τ p with
   |some (.arr n e)=>bif (decide (T=some (.arr n e.fz)))then inR i n (k (.ptr id (p++[.I i])))else none
   |_=>none
  |none=>none
 |_=>none
def qlz{R:Type}(s:St)(T:Option Ty)(a:AV)(k:AV->Option R):Option R:=
 match a with
 |.ref σ x=>bif (decide (T=some σ))then k (.val σ x)else none
 |.ptr id p=>match s.obj id with
  |some o=>bif o.row&&p.isEmpty then none else match qci o.τ p with
   |some σ=>bif (decide (T=some σ.fz))then(bif σ.isFz then qa1 o.τ o.x p λσ y=>k (.val σ y)else k (.view id p))else none
   |none=>none
  |none=>none
 |_=>none
def qio{R:Type}:List qq->List qq->Option R->Option R
 |[],[],k=>k
 |.L::p,.L::q,k=>qio p q k
 |.R::p,.R::q,k=>qio p q k
 |.I i::p,.I j::q,k=>eqK i j (qio p q k)
 |_,_,_=>none
def storeK{R:Type}(s:St)(T:Option Ty)(a v:AV)(k:St->Option R):Option R:=
 match a with
 |.ptr id p=>match s.obj id with
  |some o=>bif o.row&&p.isEmpty then none else match qci o.τ p with
   |none=>none
   |some τ=>bif (decide (T=some τ.fz))then(match v with
    |.upd id' p' tid e l=>bif Nat.beq id id' then qio p p' (qaZ o.τ o.x p (.list true tid e) l λz=>
      k ((s.killIf (AV.staleP id o.row o.τ p)).setObj id (some ⟨o.row,o.τ,z⟩)))else none
    |.view id2 []=>bif Nat.beq id id2 then none else match s.obj id2 with
     |some o2=>bif o2.row then(bif τ.isFz then
       (let s:=s.freeze id2
       qaZ o.τ o.x p o2.τ.fz (qhl o2.τ o2.x) λz=>k ((s.killIf (AV.staleP id o.row o.τ p)).setObj id (some ⟨o.row,o.τ,z⟩)))
       else qaZ o.τ o.x p o2.τ o2.x λz=>k ((((s.kill id2).killIf (AV.staleP id o.row o.τ p)).setObj id2 none).setObj id (some ⟨o.row,o.τ,z⟩)))else none
     |none=>none
    |.val σ y=>bif σ.isFz then qaZ o.τ o.x p σ y λz=>k ((s.killIf (AV.staleP id o.row o.τ p)).setObj id (some ⟨o.row,o.τ,z⟩))else none
    |.ref σ y=>bif σ.isFz then qaZ o.τ o.x p (.ptr σ) (some y) λz=>k ((s.killIf (AV.staleP id o.row o.τ p)).setObj id (some ⟨o.row,o.τ,z⟩))else none
    |_=>none)else none
  |none=>none
 |_=>none
def qfd{R:Type}(s:St)(dst:Option Nat)(x:Operand)(a:AV)(k:St->Option R):Option R:=
 match x,a with
 |.const _,.val (.list _ tid e) l=>match dst with
  |some d=>bif e.noFn then k ((s.newObj d true (.list true tid e) l).set d (.view d []))else none
  |none=>none
 |_,.upd id [] tid e l=>match s.obj id with
  |some o=>bif o.row&&Nat.blt id 4000000 then(match qA o.τ (.list true tid e) o.x with
   |some _=>k (((s.kill id).setObj id (some ⟨true,.list true tid e,l⟩)).setDst dst (.view id []))
   |none=>none)else(match dst with
   |some d=>bif o.row && !Nat.beq id d then k ((((s.kill id).setObj id none).newObj d true (.list true tid e) l).set d (.view d []))else none
   |none=>none)
  |none=>none
 |_,a=>k (s.setDst dst a)
def qmj{R:Type}(s:St)(T:Option Ty)(a:AV)(lo hi:Option Int)(k:AV->Option R):Option R:=
 match a with
 |.val (.list own tid e) l=>bif !own&&(decide (T=some (.list false tid e)))then(match lo,hi with
   |none,none=>k (.val (.list false tid e) l)
   |some i,none=>leK 0 i (leK i l.length (k (.val (.list false tid e) (l.drop i.toNat))))
   |none,some j=>leK 0 j (leK j l.length (k (.val (.list false tid e) (l.take j.toNat))))
   |some i,some j=>leK 0 i (leK i j (leK j l.length (k (.val (.list false tid e) ((l.take j.toNat).drop i.toNat))))))else none
 |.view id p=>match s.obj id with
  |some o=>qa1 o.τ o.x p λσ y=>match σ,y with
   |.list own tid e,l=>bif own&&e.isFz&&(decide (T=some (.list false tid e)))then(match lo,hi with
    |none,some j=>leK 0 j (leK j l.length (k (.upd id p tid e (l.take j.toNat))))
    |some i,none=>leK 0 i (leK i l.length (k (.cut id p e.size i)))
    |_,_=>none)else none
   |_,_=>none
  |none=>none
 |_=>none
def cutOf:AV->Option (Nat×Int)
 |.view id []=>some (id,0)
 |.cut id [] z lo=>bif Nat.beq z 1 then some (id,lo)else none
 |_=>none
def qcz{α:Type}(l l2:List α)(lo:Nat):List α:=l.take lo++l2.take (l.length-lo)++l.drop (lo+min l2.length (l.length-lo))
def copyK{R:Type}(s:St)(T:Option Ty)(dst:Option Nat)(a b:AV)(k:St->Option R):Option R:=
 match T with
 |some (.list _ tid e)=>bif e.isFlat&&Nat.beq e.size 1 then(match cutOf a with
  |some (id,lo)=>match s.obj id with
   |some o=>bif o.row then qa (qA o.τ (.list true tid e) o.x) λl=>qg2 s b e λl2=>
     k (((s.killIf (AV.stale id true)).setObj id (some ⟨true,.list true tid e,qcz l l2 lo.toNat⟩)).setDst dst (.val (.int .i64) ((min l2.length (l.length-lo.toNat):Nat):Int)))else none
   |none=>none
  |none=>none)else none
 |_=>none
def clearK{R:Type}(s:St)(T:Option Ty)(dst:Option Nat)(a:AV)(k:St->Option R):Option R:=none
def qnE{R:Type}(s:St)(T:Option Ty)(dst:Option Nat)(x:Operand)(a b:AV)(k:St->Option R):Option R:=
 match T with
 |some (.list _ tid e)=>bif e.noFn then(match a with
  |.val (.list _ _ _) _=>match x with
   |.const _=>qg2 s b e λl2=>ql l2.length (match dst with
     |some d=>k ((s.newObj d true (.list true tid e) l2).set d (.view d []))
     |none=>none)
   |_=>none
  |.view id p=>match s.obj id with
   |some o=>qa1 o.τ o.x p λσ y=>qa (qA σ (.list true tid e) y) λl=>
     qg2 s b e λl2=>ql (l.length+l2.length) (k ((s.killIf (AV.staleV id o.row p)).setDst dst (.upd id p tid e (l++l2))))
   |none=>none
  |_=>none)else none
 |_=>none
def qg1:AV->Nat->Option AV
 |.cons a _,0=>some a
 |.cons _ b,i+1=>qg1 b i
 |_,_=>none
def qbV(s:St)(τ:Nat->Option Ty):List Operand->Nat->Option (List AV)
 |[],_=>some []
 |x::r,i=>match qI s (τ i) x,qbV s τ r (i+1)with
  |some a,some l=>some (a::l)
  |_,_=>none
def AV.ofList:List AV->AV
 |[]=>.nil
 |a::l=>.cons a (ofList l)
def intOf:AV->Option Int
 |.val (.int _) n=>some n
 |_=>none
def qfJ(s:St):Option Operand->Option (Option Int)
 |none=>some none
 |some x=>match(qI s none x).bind intOf with
  |some n=>some (some n)
  |none=>none
def siteTy(cfg:jG)(dst:Option Nat)(T:Option Ty):Option Ty:=
 match dst with
 |some d=>match lk cfg.site d with
  |some τ=>bif (decide (some τ.fz=T))then some τ else none
  |none=>T
 |none=>none
def siteRow(cfg:jG)(dst:Option Nat)(T:Option Ty):Option Ty:=
 match dst with
 |some d=>match lk cfg.site d with
  |some τ=>some τ
  |none=>T
 |none=>none
end Go.Vi
namespace Go.Vi
def frzOp(s:St)(x:Operand):St:=
 match qI s none x with
 |some (.view id p)=>match s.obj id with
  |some o=>bif o.row&&p.isEmpty then s else s.freeze id
  |none=>s
 |_=>s
def frzSite(cfg:jG)(s:St)(d:Option Nat)(x:Operand):St:=
 match d.bind (lk cfg.site)with
 |some .bool=>s
 |some (.ptr .bool)=>s
 |some _=>match qI s none x with
  |some (.view id _)=>s.freeze id
  |_=>s
 |none=>s
def frzLoad(cfg:jG)(s:St)(d:Option Nat)(x:Operand):St:=
 match d with
 |some d=>bif jY (8000000+d) cfg.enum then(match qI s none x with
  |some (.ptr id _)=>s.freeze id
  |_=>s)else s
 |none=>s
def St.commitT(s:St):Operand->St
 |.tmp t=>match s.get t with
  |some (.upd id [] tid e l)=>match s.obj id with
   |some o=>bif o.row&&Nat.blt id 4000000 then(s.newObj id true (.list true tid e) l).set t (.view id [])else s
   |none=>s
  |_=>s
 |_=>s
def commitAll(s:St):List Operand->St
 |[]=>s
 |x::r=>commitAll (s.commitT x) r
def qkv{R:Type}(s:St)(dst:Option Nat)(x:Operand)(a:AV)(k:St->Option R):Option R:=
 match x,a,dst with
 |.const _,.val (.list _ tid e) _,some d=>bif e.noFn then k ((s.newObj (7000000+d) true (.list true tid e) []).set d (.view (7000000+d) []))else none
 |_,_,_=>qfd s dst x a k
def qiG:Option Ty->Bool
 |some .bool=>true
 |_=>false
def qiy(cfg:jG)(d:Nat):Nat:=bif jY (1000000+d) cfg.enum then 4000000+d else d
def qku(s:St)(a:AV):Option Bool:=
 match a with
 |.view id []=>match s.obj id with
  |some o=>bif o.row then(bif qfz id true then some false else bif qfz id false then some true else none)else none
  |none=>none
 |_=>none
def qiF:Option Ty->Bool
 |some (.ptr .bool)=>true
 |_=>false
def qit{R:Type}(s:St)(dst:Option Nat)(x:Operand)(a:AV)(k:St->Option R):Option R:=
 match a,dst with
 |.view id [],some d=>match s.obj id with
  |some o=>bif o.row && !Nat.beq id d then k ((((s.kill id).setObj id none).newObj d true o.τ o.x).set d (.view d []))else qfd s dst x a k
  |none=>none
 |_,_=>qfd s dst x a k
def qi8{R:Type}(cfg:jG)(s:St)(dst:Option Nat)(type:TypeId)(x:Operand)(k:St->Option R):Option R:=
 match qI s (lk cfg.ty type) x with
 |some a=>bif qiG (dst.bind (lk cfg.site))then qkv s dst x a k else bif qiF (dst.bind (lk cfg.site))then qit s dst x a k else bif (dst.bind (lk cfg.site)).isSome then k (s.setDst dst a)else qfd s dst x a k
 |none=>none
def qln(s:St):AV->Bool
 |.ptr id p=>match s.obj id with
  |some o=>match qci o.τ p with
   |some (.list true _ _)=>true
   |_=>false
  |none=>false
 |_=>false
def qjw{R:Type}(s:St)(T:Option Ty)(a:AV)(k:St->Option R):Option R:=
 match a with
 |.ptr id p=>match s.obj id with
  |some o=>match qci o.τ p with
   |some (.list true tid e)=>bif (decide (T=some (.list false tid e.fz)))then qaZ o.τ o.x p (.list true tid e) [] λz=>k ((s.killIf (AV.staleP id o.row o.τ p)).setObj id (some ⟨o.row,o.τ,z⟩))else none
   |_=>none
  |none=>none
 |_=>none
def qh6(s:St)(a v:Operand):Option (Nat×List qq):=
 match qI s none a,qI s none v with
 |some (.ptr id p),some (.view id2 q)=>bif Nat.beq id id2&&qO p q then some (id,p)else none
 |_,_=>none
def selfK{R:Type}(s:St)(T:Option Ty)(id:Nat)(p:List qq)(k:St->Option R):Option R:=
 match s.obj id with
 |some o=>bif o.row&&p.isEmpty then none else match qci o.τ p with
  |some (.list true tid e)=>bif e.isFz&&decide (T=some (.list false tid e.fz))then qa1 o.τ o.x p λσ y=>qaZ o.τ o.x p σ y λz=>k ((s.killIf (AV.staleP id o.row o.τ p)).setObj id (some ⟨o.row,o.τ,z⟩))else none
  |some τ=>bif decide (T=some τ.fz)then k s else none
  |none=>none
 |none=>none
def qgg:Option Ty->Bool
 |some (.ptr _)=>true
 |_=>false
def qkO{R:Type}(cfg:jG)(s:St)(dst:Option Nat)(T:TypeId)(i n:Nat)(k:St->Option R):Option R:=
 bif Nat.beq i 2&&(Nat.beq (n/1000) 1&&qgg (lk cfg.ty T))then(match s.obj (10000000+n%1000)with
  |some o=>bif o.row then none else k (s.setDst dst (.ptr (10000000+n%1000) []))
  |none=>none)else none
def qj2{R:Type}(cfg:jG)(s:St)(dst:Option Nat)(T:TypeId)(m:Nat)(e:Ty)(l:List e.den)(lo hi:Option Int)(k:St->Option R):Option R:=
 match lo,hi,dst.bind (lk cfg.site)with
 |none,none,some (.list false tid _)=>bif decide (lk cfg.ty T=some (.arr m e))then k (s.setDst dst (.val (.list false tid e) l))else none
 |_,_,_=>none
def qhG{R:Type}(cfg:jG)(s:St)(dst:Option Nat)(T:TypeId)(x:Operand)(lo hi mx:Option Operand)(k:St->Option R):Option R:=
 match qI s none x,qfJ s lo,qfJ s hi,mx with
 |some x,some lo,some hi,none=>(match x with
  |.ref (.arr m e) l=>qj2 cfg s dst T m e l lo hi k
  |x=>qmj s (lk cfg.ty T) x lo hi λv=>k (s.setDst dst v))
 |_,_,_,_=>none
def reHint(cfg:jG):Operand->Bool
 |.tmp t=>jY (6000000+t) cfg.enum
 |_=>false
def reK{R:Type}(s:St)(T:Option Ty)(a v:AV)(k:St->Option R):Option R:=none
def qmq{R:Type}(s:St)(T:Option Ty)(a:AV)(k:St->Option R):Option R:=none
def takeOf(cfg:jG):Operand->Option Nat
 |.tmp t=>lk cfg.takes t
 |_=>none
def qfA{R:Type}(s:St)(T:Option Ty)(a:AV)(t:Nat)(k:St->Option R):Option R:=
 match a,s.get t with
 |.ptr id p,some (.view id' p')=>match s.obj id with
  |some o=>bif Nat.beq id id' then qio p p' (qa1 o.τ o.x p λσ y=>match σ,y with
    |.list true tid e,l=>bif e.isFz&&(e.noFn&&decide (T=some (.list false tid e)))then qaZ o.τ o.x p (.list true tid e) [] λz=>
      k ((((s.killIf (AV.staleP id o.row o.τ p)).setObj id (some ⟨o.row,o.τ,z⟩)).killIf AV.isUpd).set t (.val (.list false tid e) l))else none
    |_,_=>none)else none
  |none=>none
 |_,_=>none
def qfB{R:Type}(s:St)(T:Option Ty)(a v:AV)(t:Nat)(k:St->Option R):Option R:=
 match a,v,s.get t with
 |.ptr id p,.view id2 [],some (.upd id' q tid e l)=>match s.obj id,s.obj id2 with
  |some o,some o2=>bif !o.row&&(o2.row&&(!Nat.beq id id2&&(Nat.beq id id'&&(!p.any qq.isI&&(!q.any qq.isI&&(j8 p q&&(qaF o.τ p q&&(e.isBare&&decide (T=some o2.τ.fz)))))))))then
    qaZ o.τ o.x p o2.τ o2.x λz=>k (((((s.kill id2).setObj id2 none).killIf (AV.staleP id o.row o.τ p)).setObj id (some ⟨o.row,o.τ,z⟩)).set t (.upd id' q tid e l))else none
  |_,_=>none
 |_,_,_=>none
def updT(s:St):Option Nat->Option Nat
 |some t=>(match s.get t with
  |some (.upd _ _ _ _ _)=>some t
  |_=>none)
 |none=>none
def qkc{R:Type}(cfg:jG)(s:St)(dst:Option Nat)(T:TypeId)(a v:Operand)(k:St->Option R):Option R:=
 match qI s none a,qI s (lk cfg.ty T) v with
 |some b,some w=>bif reHint cfg a then(bif qcW v then qmq s (lk cfg.ty T) b λs=>k (s.setDst dst .dead)else reK s (lk cfg.ty T) b w λs=>k (s.setDst dst .dead))else bif qcW v&&qln s b then(match takeOf cfg a with
  |some t=>qfA s (lk cfg.ty T) b t λs=>k (s.setDst dst .dead)
  |none=>qjw s (lk cfg.ty T) b λs=>k (s.setDst dst .dead))else(match updT s (takeOf cfg a)with
  |some t=>qfB s (lk cfg.ty T) b w t λs=>k (s.setDst dst .dead)
  |none=>storeK s (lk cfg.ty T) b w λs=>k (s.setDst dst .dead))
 |_,_=>none
def qiK(dst:Option Nat)(t:Nat):Bool:=
 match dst with
 |some d=>Nat.beq d t
 |none=>false
def qgf(s s':St)(id:Nat)(q:List qq)(dst:Option Nat):List Nat->St
 |[]=>s'
 |t::ts=>match s.get t with
  |some (.view j p)=>bif Nat.beq j id&&(qO p q && !qiK dst t)then(qgf s s' id q dst ts).set t (.view id q)else qgf s s' id q dst ts
  |some (.gh n (.view j p))=>bif Nat.beq j id&&(qO p q && !qiK dst t)then(qgf s s' id q dst ts).set t (.gh n (.view id q))else qgf s s' id q dst ts
  |_=>qgf s s' id q dst ts
def qgR{R:Type}(s:St)(dst:Option Nat)(kp:qdB)(l:List AV)(k:St->Option R):Option R:=
 match l with
 |[.ptr id []]=>match s.obj id with
  |some o=>bif !o.row&&(Nat.ble 10000000 id&&Nat.blt kp.rs.length 1000)then qa (qA o.τ kp.τ o.x) λx=>qa (kp.g (x,())) λy=>
    let q:=jI (((s.killIf AV.isUpd).killIf (AV.stale id false)).setObj id (some ⟨false,kp.τ,y.2.1⟩)) (1000*(dst.getD 0+1)) kp.rs y.1
    k (qgf s (q.1.setDst dst q.2.lone) id kp.q dst kp.ts)else none
  |none=>none
 |_=>none
def qiw{R:Type}(cfg:jG)(s:St)(dst:Option Nat)(mp:qjc)(l:List AV)(k:St->Option R):Option R:=none
def qgH{R:Type}(cfg:jG)(s:St)(dst:Option Nat)(i f n:Nat)(l:List AV)(k:St->Option R):Option R:=none
def qml(cfg:jG)(T:Nat):Bool:=
 match cfg.self with
 |some sp=>Nat.beq T sp.T
 |none=>false
def qh9:Operand->Operand->Bool
 |.tmp a,.tmp b=>Nat.beq a b
 |.func a,.func b=>Nat.beq a b
 |.const (.bool a),.const (.bool b)=>a==b
 |.const (.int i a),.const (.int j b)=>(i==j)&&(a==b)
 |_,_=>false
def qf1:List Operand->List Operand->Bool
 |[],[]=>true
 |a::l,b::r=>qh9 a b&&qf1 l r
 |_,_=>false
def inlK{R:Type}(s:St)(il:Inl)(f:Operand)(ops:List Operand)(k:St->Option R):Option R:=
 bif qh9 f il.fop&&qf1 ops il.ops then(match il.ins.get s with
  |some d=>qa (il.g d) λy=>k (il.outs.fill y)
  |none=>none)else none
abbrev tyK:Ty:=.str (.pair (.int .i64) (.int .i64))
abbrev tyS:Ty:=.str (.pair tyK tyK)
def qdi:Int->Bool
 |.ofNat m=>Nat.ble m 9223372036854775807
 |.negSucc m=>Nat.ble m 9223372036854775807
def inI{R:Type}(n:Int)(k:Option R):Option R:=bif qdi n then k else none
def extOf{R:Type}(s:St)(a:AV)(k:(n i j:Nat)->qcM n->Option R):Option R:=
 match a with
 |.val (.ext _ n i j) x=>bif Nat.beq n 0 then k n i j x else none
 |.view id p=>match s.obj id with
  |some o=>qa1 o.τ o.x p λσ y=>match σ,y with
   |.ext true n i j,y=>k n i j y
   |_,_=>none
  |none=>none
 |_=>none
def valTy:Nat->Ty
 |0=>tyK
 |_=>.int .i64
def keyX{R:Type}(b:AV)(k:XK->Option R):Option R:=
 match b with
 |.val τ x=>qa (qA τ tyK x) λq:XK=>inI q.1 (inI q.2 (k q))
 |_=>none
def lookX{R:Type}(q:XK)(ok:Bool)(k:AV->Option R):(n:Nat)->qcM n->Option R
 |0,y=>qa (α:=List (XK×XK)) y λl=>bif ok then k (.cons (.val tyK ((qX l q).getD ((0:Int),(0:Int)))) (.cons (.val .bool (qX l q).isSome) .nil))else k (.val tyK ((qX l q).getD ((0:Int),(0:Int))))
 |1,y=>qa (α:=List (XK×Int)) y λl=>bif ok then k (.cons (.val (.int .i64) ((qX l q).getD (0:Int))) (.cons (.val .bool (qX l q).isSome) .nil))else k (.val (.int .i64) ((qX l q).getD (0:Int)))
 |_,_=>none
def lookK{R:Type}(cfg:jG)(s:St)(dst:Option Nat)(T:TypeId)(a b:AV)(ok:Bool)(k:St->Option R):Option R:=
 extOf s a λn i j y=>bif jY i cfg.xkeys&&(decide (lk cfg.ty T=some (.ext false n i j))&&decide (lk cfg.ty j=some (valTy n)))then keyX b λq=>lookX q ok (λv=>k (s.setDst dst v)) n y else none
def putVK{R:Type}(q:XK)(v:AV):(n:Nat)->qcM n->(qcM n->Option R)->Option R
 |0,y,k=>qa (α:=List (XK×XK)) y λl=>match v with
  |.val τ u=>qa (qA τ tyK u) λu:XK=>ql l.length (k (some (qaC l q u):Option (List (XK×XK))))
  |_=>none
 |1,y,k=>qa (α:=List (XK×Int)) y λl=>match v with
  |.val τ u=>qa (qA τ (.int .i64) u) λu:Int=>ql l.length (k (some (qaC l q u):Option (List (XK×Int))))
  |_=>none
 |_,_,_=>none
def putK{R:Type}(cfg:jG)(s:St)(dst:Option Nat)(T:TypeId)(a b v:AV)(k:St->Option R):Option R:=
 match a with
 |.view id p=>match s.obj id with
  |some o=>qa1 o.τ o.x p λσ y=>match σ,y with
   |.ext true n i j,y=>bif jY i cfg.xkeys&&decide (lk cfg.ty T=some (.ext false n i j))then keyX b λq=>putVK q v n y λy'=>
     qaZ o.τ o.x p (.ext true n i j) y' λz=>k (((s.killIf (AV.stale id o.row)).setObj id (some ⟨o.row,o.τ,z⟩)).setDst dst .dead)else none
   |_,_=>none
  |none=>none
 |_=>none
def frzMap(s:St)(x:Operand):St:=
 match qI s none x with
 |some (.view id _)=>s.freeze id
 |_=>s
def qki{R:Type}(cfg:jG)(s:St)(dst:Option Nat)(T:TypeId)(x:Operand)(k:St->Option R):Option R:=
 match dst,qI s none x with
 |some d,some (.val (.ext false 0 i j) y)=>bif jY i cfg.xkeys&&decide (lk cfg.ty T=some (.ext false 0 i j))then qa (α:=List (XK×XK)) y λl=>
   k ((s.newObj d true (.ext true 3 i j) (l,none)).set d (.view d []))else none
 |_,_=>none
noncomputable def qis{R:Type}(l:List (XK×XK))(k0:Option R)(k:XK×XK->Option R):Option R:=
 match l with
 |[]=>k0
 |x::r=>dem (λy:XK×XK=>y∈x::r) k
noncomputable def qmH{R:Type}(cfg:jG)(s:St)(dst:Option Nat)(x:Operand)(k:St->Option R):Option R:=
 match qI s none x with
 |some (.view id [])=>match s.obj id with
  |some ⟨true,.ext true 3 i j,y⟩=>bif jY i cfg.xkeys then(let z:List (XK×XK)×Option (XK×XK):=y
    qis z.1 (k (s.setDst dst (.cons (.val .bool false) .nil))) λu=>
     k (((s.killIf (AV.stale id true)).setObj id (some ⟨true,.ext true 3 i j,(qaP u.1 z.1,some u)⟩)).setDst dst (.cons (.val .bool true) (.cons (.val tyK u.1) (.cons (.val tyK u.2) .nil)))))else none
  |_=>none
 |_=>none
def qkM{R:Type}(s:St)(dst:Option Nat)(x:Operand)(k:St->Option R):Option R:=
 match qI s none x with
 |some (.view id [])=>match s.obj id with
  |some ⟨true,.ext true 3 _ _,y⟩=>(let z:List (XK×XK)×Option (XK×XK):=y
    qa z.2 λu=>k (s.setDst dst (.cons (.val tyK u.1) (.cons (.val tyK u.2) .nil))))
  |_=>none
 |_=>none
def qix{R:Type}(cfg:jG)(s:St)(dst:Option Nat)(T:TypeId)(k:St->Option R):Option R:=
 match dst,lk cfg.ty T with
 |some d,some (.ext false 0 i j)=>bif jY i cfg.xkeys then k ((s.newObj d true (.ext true 0 i j) (some []:Option (List (XK×XK)))).set d (.view d []))else none
 |some d,some (.ext false 1 i j)=>bif jY i cfg.xkeys then k ((s.newObj d true (.ext true 1 i j) (some []:Option (List (XK×Int)))).set d (.view d []))else none
 |_,_=>none
def wrapK{R:Type}(cfg:jG)(s:St)(dst:Option Nat)(T:TypeId)(x:Operand)(k:St->Option R):Option R:=
 match dst,cfg.xque,qI s none x with
 |_,some q,some (.val τ y)=>bif Nat.beq T q.et then qa (qA τ tyS y) λy:XK×XK=>k (s.setDst dst (.val (.ext false 2 q.et 0) y))else none
 |some d,some q,some (.ptr id [])=>match s.obj id with
  |some o=>bif !o.row&&Nat.beq T q.T then qa (qA o.τ (.list true q.et tyS) o.x) λl:List (XK×XK)=>
    k ((((s.kill id).setObj id none).newObj d true (.ext true 4 q.T q.et) (some l:Option (List (XK×XK)))).set d (.view d []))else none
  |none=>none
 |_,_,_=>none
def qkT{R:Type}(cfg:jG)(s:St)(dst:Option Nat)(x:Operand)(T:TypeId)(k:St->Option R):Option R:=
 match cfg.xque,qI s none x with
 |some q,some (.val (.ext false 2 i _) y)=>bif Nat.beq i T&&Nat.beq q.et T then(let y:XK×XK:=y
   k (s.setDst dst (.val tyS y)))else none
 |_,_=>none
def qlk{R:Type}(cfg:jG)(s:St)(a:AV)(k:XQ->(id:Nat)->(p:List qq)->List (XK×XK)->Option R):Option R:=
 match cfg.xque,a with
 |some q,.view id p=>match s.obj id with
  |some o=>bif o.row&&p.isEmpty then none else qa1 o.τ o.x p λσ y=>qa (qA σ (.ext true 4 q.T q.et) y) λy:Option (List (XK×XK))=>qa y λl=>k q id p l
  |none=>none
 |_,_=>none
def qkj{R:Type}(s:St)(q:XQ)(id:Nat)(p:List qq)(l:List (XK×XK))(k:St->Option R):Option R:=
 match s.obj id with
 |some o=>qaZ o.τ o.x p (.ext true 4 q.T q.et) (some l:Option (List (XK×XK))) λz=>k ((s.killIf (AV.stale id o.row)).setObj id (some ⟨o.row,o.τ,z⟩))
 |none=>none
def qkk{R:Type}(cfg:jG)(s:St)(dst:Option Nat)(x:Operand)(k:St->Option R):Option R:=
 match qI s none x with
 |some a=>qlk cfg s a λ_ _ _ l=>k (s.setDst dst (.val (.int .i64) (l.length:Int)))
 |none=>none
def qil{R:Type}(cfg:jG)(s:St)(dst:Option Nat)(f:Nat)(l:List AV)(k:St->Option R):Option R:=
 match cfg.xque,l with
 |some q,[a]=>bif Nat.beq f q.fPop then qlk cfg s a λq id p l=>qa (q.pop l) λr=>qkj s q id p r.2 λs=>k (s.setDst dst (.val (.ext false 2 q.et 0) r.1))else none
 |some q,[a,b]=>bif Nat.beq f q.fPush then qlk cfg s a λq id p l=>(match b with
   |.val τ y=>qa (qA τ (.ext false 2 q.et 0) y) λy:XK×XK=>qa (q.push l y) λr=>qkj s q id p r λs=>k (s.setDst dst .nil)
   |_=>none)else none
 |_,_=>none
def qgG{R:Type}(cfg:jG)(s:St)(dst:Option Nat)(q:XS)(f:Nat)(l:List AV)(k:St->Option R):Option R:=
 match l with
 |[a,.fn g .nil (.cons (.ref τ x) .nil)]=>bif Nat.beq f q.f&&Nat.beq g q.g then
   qa (qA τ q.τ x) λx=>qgt cfg s dst ⟨[.mr q.tid q.e],[],λd=>(q.sort x d.1).map λl=>((),(l,()))⟩ [a] k
  else none
 |_=>none
def qkQ{R:Type}(cfg:jG)(s:St)(dst:Option Nat)(f:Operand)(c:Call)(k:St->Option R):Option R:=
 match dst.bind (lk cfg.inl)with
 |some il=>inlK s il f c.args.toList k
 |none=>match qI s none f,qbV s (λi=>(c.argTypes[i]?).bind (lk cfg.ty)) c.args.toList 0 with
 |some (.fn f first caps),some l=>match lk cfg.prims f with
  |some p=>match qcy s p.ps first caps l with
   |some (id,path)=>qg5 s dst p id path k
   |none=>bif first.isTup&&caps.isTup then(match lk cfg.alts f with
    |some q=>qm8 cfg s dst q (first.list++l++caps.list) (qgt cfg s dst p (first.list++l++caps.list) k) k
    |none=>qgt cfg s dst p (first.list++l++caps.list) k)else none
  |none=>match lk cfg.makers f with
   |some m=>bif first.isTup&&caps.isTup then qm7 cfg s dst m (first.list++l++caps.list) k else none
   |none=>match lk cfg.keeps f with
    |some kp=>bif first.isTup&&caps.isTup then qgR s dst kp (first.list++l++caps.list) k else none
    |none=>match lk cfg.mas f with
     |some mp=>bif first.isTup&&caps.isTup then qiw cfg s dst mp (first.list++l++caps.list) k else none
     |none=>match first,caps with
      |.nil,.nil=>(match cfg.xsort with
       |some q=>qgG cfg s dst q f l k
       |none=>qil cfg s dst f l k)
      |_,_=>none
 |some (.cv i f n),some l=>qgH cfg s dst i f n l k
 |some (.val (.fn a r) g),some [x]=>bif r.isFlat then qb8 s x a λx=>qa (g x) λy=>k (s.setDst dst (.val r y))else none
 |some (.val (.fn2 a b r) g),some [x,y]=>bif r.isFlat then qb8 s x a λx=>qb8 s y b λy=>qa (g x y) λz=>k (s.setDst dst (.val r z))else none
 |_,_=>none
def qme(cfg:jG)(s:St)(d:Option Nat)(T:TypeId)(a:AV):Option St:=
 match d with
 |none=>none
 |some d=>match lk cfg.site d with
  |none=>none
  |some _=>match a with
   |.ptr id []=>match s.obj id with
    |some o=>bif !o.row&&(qlg o.τ&&decide (lk cfg.ty T=some o.τ.fz))then some ((((s.kill id).setObj id none).newObj d true o.τ o.x).set d (.view d []))else none
    |none=>none
   |_=>none
def litTy(cfg:jG)(T:TypeId):Option Ty:=
 match lk cfg.ty T with
 |some (.ext false 5 tid _)=>(match lk cfg.ty tid with
  |some e=>some (.list false tid e)
  |none=>none)
 |x=>x
def qhS(cfg:jG)(c:Call):Option Nat:=
 match c.argTypes.toList with
 |[T,T']=>(match lk cfg.ty T with
  |some (.ext false 5 tid _)=>bif Nat.beq T T' then some tid else none
  |_=>none)
 |_=>none
def ql2{R:Type}(cfg:jG)(s:St)(dst:Option Nat)(tid:Nat)(a b:AV)(k:St->Option R):Option R:=
 match dst,lk cfg.ty tid,a with
 |some d,some e,.view id p=>match s.obj id with
  |some o=>bif !o.row&&(!p.any qq.isI&&Nat.beq e.size 1)then qa1 o.τ o.x p λσ y=>(match σ,y with
   |.ext true 5 i j,y=>bif Nat.beq i tid then(let y:Option Nat:=y
     qa y λn=>qg2 s b e λl2=>ql ((n:Int)+(l2.length:Int)) (qaZ o.τ o.x p (.ext true 5 i j) (none:Option Nat) λz=>
      k ((((s.killIf (AV.staleX id)).setObj id (some ⟨o.row,o.τ,z⟩)).newObj d true (.ext true 5 i j) (some (n+l2.length):Option Nat)).set d (.view d []))))else none
   |_,_=>none)else none
  |none=>none
 |_,_,_=>none
def ql3{R:Type}(cfg:jG)(s:St)(dst:Option Nat)(tid:Nat)(c:Call)(k:St->Option R):Option R:=
 match c.args.toList with
 |[x,y]=>match qI s none x,qI s none y with
  |some a,some b=>ql2 cfg s dst tid a b k
  |_,_=>none
 |_=>none
def qfC{R:Type}(cfg:jG)(d:Option Nat)(k:St->Option R)(s:St):Option R:=
 match d with
 |none=>k s
 |some d=>match lk cfg.site d with
  |none=>k s
  |some _=>k (s.commitT (.tmp d))
def St.ghMove(s s':St)(id d:Nat):St:=
 match s.get ghId with
 |some (.gh n (.view j []))=>bif Nat.beq j id then s'.set ghId (.gh n (.view d []))else s'
 |_=>s'
def qkm{R:Type}(s:St)(id:Nat)(p:List qq)(k:Option R):Option R:=
 match s.obj id with
 |some o=>qa1 o.τ o.x p λσ y=>match σ,y with
  |.op _,y=>qa y λ_=>k
  |_,_=>none
 |none=>none
def qi7{R:Type}(s:St)(dst:Option Nat)(T:Option Ty)(tid:Nat)(t:Ty)(len:Nat)(parts:List (Nat×Operand))(k:St->Option R):Option R:=none
def opSite(cfg:jG)(d:Option Nat):Option (Nat×Ty):=
 match d.bind (lk cfg.site)with
 |some (.list true tid (.op t))=>some (tid,t)
 |_=>none
def qg6{R:Type}(s:St)(dst:Option Nat)(T:Option Ty)(tid:Nat)(t:Ty)(a b:AV)(k:St->Option R):Option R:=none
noncomputable def qG{R:Type}(cfg:jG)(o:Oper)(s:St)(k:St->Option R):Option R:=
 match o.op with
 |.move x=>match qI s (lk cfg.ty o.type) x with
  |some a=>k (s.setDst o.dst a)
  |none=>none
 |.assign x=>qi8 cfg (frzSite cfg s o.dst x) o.dst o.type x k
 |.pick c a b=>match qI s none c,qI s (lk cfg.ty o.type) a,qI s (lk cfg.ty o.type) b with
  |some (.val .bool c),some a,some b=>cond c (k (s.setDst o.dst a)) (k (s.setDst o.dst b))
  |_,_,_=>none
 |.alloc T=>match o.dst,siteTy cfg o.dst (lk cfg.ty T)with
  |some d,some τ=>bif τ.zeroX then k ((s.newObj d false τ τ.zero).set d (.ptr d []))else none
  |_,_=>none
 |.box T v=>match o.dst,qI s (lk cfg.ty T) v,lk cfg.ty T with
  |some d,some a,some τ=>bif (!τ.noFn && !a.isVw)||(lk cfg.site d).isSome then(match a with
    |.val σ x=>qa (qA σ τ x) λx=>k (s.set d (.ref τ x))
    |.ref σ x=>qa (qA (.ptr σ) τ (some x)) λx=>k (s.set d (.ref τ x))
    |_=>none)else match a with
   |.view id []=>match s.obj id with
    |some ob=>bif ob.row&&decide (ob.τ.fz=τ)then k (s.ghMove ((((s.kill id).setObj id none).newObj d false ob.τ ob.x).set d (.ptr d [])) id d)else none
    |none=>none
   |a=>qb8 s a τ λx=>match a with
    |.val _ _=>k ((s.newObj d false τ x).set d (.ptr d []))
    |.ref _ _=>k ((s.newObj d false τ x).set d (.ptr d []))
    |_=>none
  |_,_,_=>none
 |.load T x=>match qI (frzLoad cfg s o.dst x) none x with
  |some (.cv i f n)=>bif Nat.beq i 0&&qml cfg T then k ((frzLoad cfg s o.dst x).setDst o.dst (.cv 1 f n))else qkO cfg (frzLoad cfg s o.dst x) o.dst T i n k
  |some a=>match qme cfg (frzLoad cfg s o.dst x) o.dst T a with
   |some s'=>k s'
   |none=>qlz (frzLoad cfg s o.dst x) (lk cfg.ty T) a λv=>k ((frzLoad cfg s o.dst x).setDst o.dst v)
  |none=>none
 |.store T a v=>match qh6 s a v with
  |some (id,p)=>selfK s (lk cfg.ty T) id p λs=>k (s.setDst o.dst .dead)
  |none=>qkc cfg (frzOp s v) o.dst T a v k
 |.nilCheck x=>match qI s (lk cfg.ty o.type) x with
  |some (.val (.ptr τ) x)=>qa x λy=>k (s.setDst o.dst (.ref τ y))
  |some (.ref τ x)=>k (s.setDst o.dst (.ref τ x))
  |some (.ptr i p)=>k (s.setDst o.dst (.ptr i p))
  |some (.view i p)=>qkm s i p (k (s.setDst o.dst (.ptr i (p++[.I 0]))))
  |_=>none
 |.binOp op T x y _=>bif qcW y&&qcc (lk cfg.ty T)then(match qI s none x with
   |some a=>match qku s a with
    |some b=>qeE op b λb=>k (s.setDst o.dst (.val .bool b))
    |none=>qjM s a λn=>nilK n λb=>qeE op b λb=>k (s.setDst o.dst (.val .bool b))
   |none=>none)else match qI s none x,qI s none y with
  |some x,some y=>binK op (lk cfg.ty T) x y λv=>k (s.setDst o.dst v)
  |_,_=>none
 |.unOp op _ x=>match qI s none x with
  |some x=>unK op x λv=>k (s.setDst o.dst v)
  |none=>none
 |.convert src dst x=>match lk cfg.ty src,lk cfg.ty dst,qI s none x with
  |some (.int _),some (.int j),some (.val (.int _) n)=>k (s.setDst o.dst (.val (.int j) (j.wrap n)))
  |_,_,_=>none
 |.fieldAddr T x i=>match qI s none x with
  |some x=>qiY s (lk cfg.ty T) x i λv=>k (s.setDst o.dst v)
  |none=>none
 |.indexAddr T x i=>match qI s none x,(qI s none i).bind intOf with
  |some x,some i=>qfL s (lk cfg.ty T) x i λv=>k (s.setDst o.dst v)
  |_,_=>none
 |.extract x i=>match qI s none x with
  |some x=>match qg1 x i with
   |some a=>k (s.setDst o.dst a)
   |none=>none
  |none=>none
 |.slice T x lo hi mx=>qhG cfg (frzSite cfg s o.dst x) o.dst T x lo hi mx k
 |.makeSlice T l c=>match o.dst,siteRow cfg o.dst ((lk cfg.ty T).map λτ=>match τ with|.list _ t e=>.list true t e|τ=>τ),(qI s none l).bind intOf,(qI s none c).bind intOf with
  |some d,some (.list true tid e),some l,some c=>bif e.noFn&&decide (lk cfg.ty T=some (.list false tid e.fz))then leK 0 l (leK l c (ql c (k ((s.newObj (qiy cfg d) true (.list true tid e) (List.replicate l.toNat e.zero)).set d (.view (qiy cfg d) [])))))else none
  |_,_,_,_=>none
 |.makeFunc (.func f) first caps=>match qbV s (λ_=>none) first.toList 0,qbV s (λ_=>none) caps.toList 0 with
  |some a,some b=>k (s.setDst o.dst (.fn f (AV.ofList a) (AV.ofList b)))
  |_,_=>none
 |.build T parts=>match(o.dst.bind (lk cfg.site)),lk cfg.ty T,qbV s (λ_=>none) (parts.toList.map (·.2)) 0 with
  |some (.str τ),some σ,some l=>match o.dst with
   |some d=>bif τ.zeroX&&(!τ.noFn&&(parts.toList.isEmpty&&decide ((Ty.str τ).fz=σ)))then k ((s.newObj d true (.str τ) τ.zero).set d (.view d []))else
    bif τ.noFn&&decide ((Ty.str τ).fz=σ)&&apart (parts.toList.map (·.1)) []&&(parts.toList.map (·.1)).all (qaD τ)then(match qjI s ((parts.toList.map (·.1)).zip l) τ 0 with
    |some (s,x)=>k ((s.newObj d true (.str τ) x).set d (.view d []))
    |none=>none)else none
   |none=>none
  |none,some (.str τ),some l=>bif τ.noFn&&apart (parts.toList.map (·.1)) []&&(parts.toList.map (·.1)).all (qaD τ)then(match qjJ s ((parts.toList.map (·.1)).zip l) τ 0 with
   |some (s,x)=>k (s.setDst o.dst (.val (.str τ) x))
   |none=>none)else none
  |none,some (.arr n e),some l=>bif e.noFn&&apart (parts.toList.map (·.1)) []&&(parts.toList.map (·.1)).all (λi=>Nat.blt i n)then(match qiu s ((parts.toList.map (·.1)).zip l) e 0 n with
   |some (s,x)=>k (s.setDst o.dst (.val (.arr n e) x))
   |none=>none)else none
  |_,_,_=>none
 |.buildSlice T len parts=>match opSite cfg o.dst with
  |some (tid,t)=>qi7 s o.dst (lk cfg.ty T) tid t len parts.toList k
  |none=>match o.dst,litTy cfg T,qbV s (λ_=>none) (parts.toList.map (·.2)) 0 with
   |some d,some (.list _ tid e),some l=>bif e.noFn&&Nat.ble (len*e.size) 16777216&&apart (parts.toList.map (·.1)) []&&(parts.toList.map (·.1)).all (λi=>Nat.blt i len)then(match qiu s ((parts.toList.map (·.1)).zip l) e 0 len with
    |some (s,x)=>k ((s.newObj d true (.list true tid e) x).set d (.view d []))
    |none=>none)else none
   |_,_,_=>none
 |.call c=>match c.callee with
  |.builtin .len=>match c.args.toList,c.argTypes.toList with
   |[x],[T]=>match qI s none x with
    |some a=>bif qcc (lk cfg.ty T)then qjM s a λn=>k (s.setDst o.dst (.val (.int .i64) n))else none
    |none=>none
   |_,_=>none
  |.builtin .append=>match qhS cfg c with
   |some tid=>ql3 cfg s o.dst tid c k
   |none=>match c.args.toList,c.argTypes.toList with
   |[x,y],[T,T']=>match qI s (lk cfg.ty T) x,qI s (lk cfg.ty T') y with
    |some a,some b=>bif Nat.beq T T' then(match opSite cfg o.dst with
     |some (tid,t)=>qg6 s o.dst (lk cfg.ty T) tid t a b k
     |none=>qnE s (lk cfg.ty T) o.dst x a b (qfC cfg o.dst k))else none
    |_,_=>none
   |_,_=>none
  |.builtin .copy=>match c.args.toList,c.argTypes.toList with
   |[x,y],[T,T']=>match qI s (lk cfg.ty T) x,qI s (lk cfg.ty T') y with
    |some a,some b=>copyK s (lk cfg.ty T) o.dst a b k
    |_,_=>none
   |_,_=>none
  |.builtin .clear=>match c.args.toList,c.argTypes.toList with
   |[x],[T]=>match qI s (lk cfg.ty T) x with
    |some a=>clearK s (lk cfg.ty T) o.dst a k
    |none=>none
   |_,_=>none
  |.builtin .max=>match qbV s (λ_=>none) c.args.toList 0 with
   |some [.val (.int i) a,.val (.int j) b]=>bif (i==j)then k (s.setDst o.dst (.val (.int i) (max a b)))else none
   |some [.val (.int i) a,.val (.int j) b,.val (.int l) c]=>bif (i==j)&&(i==l)then k (s.setDst o.dst (.val (.int i) (max (max a b) c)))else none
   |_=>none
  |.builtin .min=>match qbV s (λ_=>none) c.args.toList 0 with
   |some [.val (.int i) a,.val (.int j) b]=>bif (i==j)then k (s.setDst o.dst (.val (.int i) (min a b)))else none
   |_=>none
  |.value f=>qkQ cfg (commitAll s c.args.toList) o.dst f c k
  |.invoke x "Len" =>bif c.args.toList.isEmpty then qkk cfg s o.dst x k else none
  |_=>none
 |.makeMap T none=>qix cfg s o.dst T k
 |.lookup T x i ok=>match qI s none x,qI s none i with
  |some a,some b=>lookK cfg s o.dst T a b ok k
  |_,_=>none
 |.mapUpdate T x i v=>match qI s none x,qI s none i,qI s none v with
  |some a,some b,some c=>putK cfg s o.dst T a b c k
  |_,_,_=>none
 |.insert T x i v=>match qI s none x,qI s none i,qI s none v with
  |some a,some b,some c=>putK cfg s o.dst T a b c k
  |_,_,_=>none
 |.range T x=>qki cfg (frzMap s x) o.dst T x k
 |.next x false=>qmH cfg s o.dst x k
 |.entry x=>qkM s o.dst x k
 |.makeInterface T x=>wrapK cfg s o.dst T x k
 |.typeAssert x _ T false=>qkT cfg s o.dst x T k
 |_=>none
def jU(o:Oper):Bool:=
 match o.op with
 |.move _=>true
 |.assign _=>true
 |.pick _ _ _=>true
 |.load _ _=>true
 |.nilCheck _=>true
 |.binOp _ _ _ _ _=>true
 |.unOp _ _ _=>true
 |.convert _ _ _=>true
 |.fieldAddr _ _ _=>true
 |.indexAddr _ _ _=>true
 |.extract _ _=>true
 |.slice _ _ _ _ _=>true
 |.makeFunc (.func _) _ _=>true
 |.lookup _ _ _ _=>true
 |.entry _=>true
 |.build _ _=>true
 |.typeAssert _ _ _ ok=>!ok
 |.call c=>match c.callee with
  |.builtin .len=>true
  |.builtin .max=>true
  |.builtin .min=>true
  |_=>false
 |_=>false
def qbX(m:Ms):Operand->Bool
 |.tmp t=>qdH t m.tm
 |_=>false
def qei(m:Ms):Operand->Bool
 |.tmp t=>match m.it with
  |some (ti,_)=>qdH t ti
  |none=>false
 |_=>false
theorem qeH{n:Int}:qdi n=true↔-9223372036854775808<=n/\n<=9223372036854775807:=by
 cases n with
 |ofNat m=>
  show Nat.ble m 9223372036854775807=true↔_
  rw[Nat.ble_eq]
  have e:Int.ofNat m=(m:Int):=rfl
  rw[e]
  omega
 |negSucc m=>
  show Nat.ble m 9223372036854775807=true↔_
  rw[Nat.ble_eq]
  have e:Int.negSucc m = -((m:Int)+1):=rfl
  rw[e]
  omega
theorem inI_eq{R:Type}(n:Int)(k:Option R):inI n k=if -9223372036854775808<=n/\n<=9223372036854775807 then k else none:=by
 unfold inI
 cases h:qdi n with
 |true=>rw[if_pos (qeH.1 h)];rfl
 |false=>rw[if_neg (λhh=>by rw[qeH.2 hh]at h;cases h)];rfl
def avI(n:Int):AV:=.val (.int .i64) n
def qgS(s:St)(x:Operand):Option Int:=
 match qI s none x with
 |some (.val (.int .i64) n)=>some n
 |_=>none
noncomputable def qna{R:Type}(cfg:jG)(o:Oper)(s:St)(m:Ms)(k:St->Option R):Option R:=
 match o.op with
 |.lookup T x i true=>bif qbX m x&&(decide (lk cfg.maps T=some (m.kt,m.vt)))then(match qgS s i with
  |some n=>inI n (match lkI m.kv n with
   |some v=>k ((s.setDst o.dst (.cons (avI v) (.cons (.val .bool true) .nil))).withM (some (m.strike o.dst)))
   |none=>k ((s.setDst o.dst (.cons (avI 0) (.cons (.val .bool false) .nil))).withM (some (m.strike o.dst))))
  |none=>none)else none
 |.mapUpdate T x i v=>bif qbX m x&&(decide (lk cfg.maps T=some (m.kt,m.vt)))then(match qgS s i,qgS s v with
  |some n,some v=>inI n (inI v (ql m.kv.length (k (((s.killIf AV.isUpd).setDst o.dst .dead).withM (some ⟨m.kt,m.vt,(m.strike o.dst).tm,qes m.kv n v,none,none⟩)))))
  |_,_=>none)else none
 |.range T x=>match o.dst with
  |some d=>bif qbX m x&&(decide (lk cfg.maps T=some (m.kt,m.vt)))then k ((s.set d .dead).withM (some ⟨m.kt,m.vt,qgo d m.tm,m.kv,some ([d],m.kv.map (·.1)),none⟩))else none
  |none=>none
 |.next x false=>bif qei m x then(match(m.strike o.dst).it with
  |some (ti,lf)=>match lf with
   |[]=>k ((s.setDst o.dst (.cons (.val .bool false) .nil)).withM (some (m.strike o.dst).calm))
   |_=>dem (λn:Int=>n∈lf) λn=>match lkI m.kv n with
    |some v=>k (((s.killIf AV.isUpd).setDst o.dst (.cons (.val .bool true) (.cons (avI n) (.cons (avI v) .nil)))).withM (some ⟨m.kt,m.vt,(m.strike o.dst).tm,m.kv,some (ti,qi0 n lf),some (n,v)⟩))
    |none=>none
  |none=>none)else none
 |.entry x=>bif qei m x then(match m.cur with
  |some (n,v)=>k ((s.setDst o.dst (.cons (avI n) (.cons (avI v) .nil))).withM (some (m.strike o.dst)))
  |none=>none)else none
 |.call c=>match c.callee with
  |.builtin .len=>match c.args.toList,c.argTypes.toList with
   |[x],[T]=>bif qbX m x&&(decide (lk cfg.maps T=some (m.kt,m.vt)))then k ((s.setDst o.dst (avI m.kv.length)).withM (some (m.strike o.dst)))
     else qG cfg o s λs'=>k (s'.withM (some (m.strike o.dst)))
   |_,_=>none
  |.builtin .delete=>match c.args.toList,c.argTypes.toList with
   |[x,i],[T,T']=>bif qbX m x&&(decide (lk cfg.maps T=some (m.kt,m.vt)))&&Nat.beq T' m.kt then(match qgS s i with
    |some n=>inI n (k (((s.killIf AV.isUpd).setDst o.dst .nil).withM (some ⟨m.kt,m.vt,(m.strike o.dst).tm,qi3 m.kv n,none,none⟩)))
    |none=>none)else none
   |_,_=>none
  |_=>qG cfg o s λs'=>k (s'.withM (some (bif jU o then m.strike o.dst else(m.strike o.dst).calm)))
 |.move x=>qG cfg o s λs'=>k (s'.withM (some (bif qbX m x then(m.strike o.dst).add o.dst else m.strike o.dst)))
 |.assign x=>qG cfg o s λs'=>k (s'.withM (some (bif qbX m x then(m.strike o.dst).add o.dst else m.strike o.dst)))
 |_=>qG cfg o s λs'=>k (s'.withM (some (bif jU o then m.strike o.dst else(m.strike o.dst).calm)))
noncomputable def qcu{R:Type}(cfg:jG)(o:Oper)(s:St)(k:St->Option R):Option R:=
 match s.mp with
 |none=>match o.op with
  |.makeMap T none=>match o.dst,lk cfg.maps T with
   |some d,some (kt,vt)=>k ((s.set d .dead).withM (some ⟨kt,vt,[d],[],none,none⟩))
   |_,_=>qG cfg o s λs'=>k (s'.withM none)
  |_=>qG cfg o s λs'=>k (s'.withM none)
 |some m=>qna cfg o s m k
def St.skip(s:St)(d:Option Nat):St:=(s.setDst d .nil).withM (s.mp.map λm=>m.strike d)
noncomputable def qau{R:Type}(cfg:jG)(ops:Array Oper)(k:St->Option R):List Oper->St->Option R
 |[],s=>k s
 |o::rest,s=>bif qF cfg.nt o.dst then(match o.guard with
  |none=>qcu cfg o s λs=>qau cfg ops k rest s
  |some (j,want)=>match(ops[j]?).bind (·.dst)with
   |none=>none
   |some t=>match s.get t with
    |some (.val .bool b)=>cond b
      (let s:=s.set t (.val .bool true)
      bif want then qcu cfg o s λs=>qau cfg ops k rest s else qau cfg ops k rest (s.skip o.dst))
      (let s:=s.set t (.val .bool false)
      bif want then qau cfg ops k rest (s.skip o.dst)else qcu cfg o s λs=>qau cfg ops k rest s)
    |some .nil=>qau cfg ops k rest (s.skip o.dst)
    |_=>none)else none
def qhM(ops:Array Oper)(s:St):Option (Nat×Bool)->Option Bool
 |none=>some true
 |some (j,want)=>match(ops[j]?).bind (·.dst)with
  |none=>none
  |some t=>match s.get t with
   |some (.val .bool b)=>some (cond want b (!b))
   |some .nil=>some false
   |_=>none
def decided(dec:List Nat):Option (Nat×Bool)->Bool
 |none=>true
 |some (j,_)=>qdH j dec
def qh0(cfg:jG)(s:St):Op->Bool
 |.move _=>true
 |.load T x=>match qI s none x with
  |some (.ref σ _)=>decide (lk cfg.ty T=some σ)
  |some (.cv i _ n)=>Nat.beq i 2&&(Nat.beq (n/1000) 1&&qgg (lk cfg.ty T))
  |_=>false
 |.fieldAddr T x i=>match qI s none x,lk cfg.ty T with
  |some (.ref _ _),some (.str t)=>qaD t i
  |some (.ptr _ _),some (.str t)=>qaD t i
  |_,_=>false
 |.nilCheck x=>match qI s none x with
  |some (.ref _ _)=>true
  |some (.ptr _ _)=>true
  |_=>false
 |.extract x i=>match qI s none x,i with
  |some (.cons _ _),0=>true
  |some (.cons _ (.cons _ _)),1=>true
  |_,_=>false
 |.binOp .add _ x y _=>match qI s none x,qI s none y with
  |some (.val (.int i) _),some (.val (.int j) _)=>i==j
  |_,_=>false
 |.binOp .sub _ x y _=>match qI s none x,qI s none y with
  |some (.val (.int i) _),some (.val (.int j) _)=>i==j
  |_,_=>false
 |.call ⟨.builtin .len,⟨[x]⟩,⟨[T]⟩⟩=>match qI s none x with
  |some (.val (.list _ _ _) _)=>qcc (lk cfg.ty T)
  |_=>false
 |_=>false
def qf0(cfg:jG)(s:St)(o:Oper):Bool:=
 match o.op,o.guard,o.dst.bind (lk cfg.site)with
 |.slice T x none (some y) none,none,none=>match qI s none x with
  |some (.val (.list false tid e) _)=>(match qI s none y with
   |some (.val (.int _) _)=>decide (lk cfg.ty T=some (.list false tid e))
   |_=>false)
  |_=>false
 |_,_,_=>false
def qkD(s:St)(o:Oper):Bool:=
 match o.op,o.guard with
 |.indexAddr _ x _,none=>(match qI s none x with
  |some (.val (.list _ _ _) _)=>true
  |some (.ref (.arr _ _) _)=>true
  |some (.view _ _)=>true
  |_=>false)
 |.nilCheck x,none=>(match qI s none x with
  |some (.view _ _)=>true
  |_=>false)
 |_,_=>false
def qgU(cfg:jG)(ops:Array Oper)(listed:Array Bool)(dec:List Nat)(s:St)(i:Nat):Bool:=
 match ops[i]? with
 |some o=>s.mp.isNone&&(decided dec o.guard&&(Region.free .any ops listed i&&(match qhM ops s o.guard with
  |some w=>cond w (qh0 cfg s o.op||(qf0 cfg s o||qkD s o)) true
  |none=>false)))
 |none=>false
def qdP(o:Oper):Bool:=
 match o.op with
 |.move _=>true
 |.load _ _=>true
 |.indexAddr _ _ _=>true
 |_=>false
def qe1(ops:Array Oper)(listed:Array Bool)(i:Nat):List Nat:=
 (List.range ops.size).foldl (λD j=>match ops[j]? with
  |some o=>bif !listed.getD j true&&(o.after.any λe=>Region.binds .any e&&jY e.on D)then j::D else D
  |none=>D) [i]
def waitOK(ops:Array Oper)(listed:Array Bool)(i:Nat)(D:List Nat):Bool:=
 D.all λd=>!listed.getD d true&&(Nat.beq d i||match ops[d]? with
  |some o=>o.after.any λe=>Region.binds .any e&&jY e.on D
  |none=>false)
def qd6(ops:Array Oper)(listed:Array Bool)(i:Nat):Bool:=
 waitOK ops listed i (qe1 ops listed i)&&(List.range ops.size).all λj=>Nat.beq j i||(listed.getD j true||(jY j (qe1 ops listed i)||match ops[j]? with
  |some o=>qdP o
  |none=>true))
def qiJ(ops:Array Oper)(listed:Array Bool)(s:St)(i:Nat):Bool:=
 match ops[i]? with
 |some o=>match o.op,o.guard with
  |.load _ _,none=>s.mp.isNone&&(Region.free .any ops listed i&&qd6 ops listed i)
  |_,_=>false
 |none=>false
def qnv(cfg:jG)(ops:Array Oper)(listed:Array Bool)(dec:List Nat)(s:St)(i:Nat):Bool:=qgU cfg ops listed dec s i||qiJ ops listed s i
noncomputable def decK{R:Type}(ops:Array Oper):List Nat->List Nat->St->(List Nat->St->Option R)->Option R
 |[],dec,s,k=>k dec s
 |i::l,dec,s,k=>match(ops[i]?).bind (·.guard)with
  |none=>decK ops l dec s k
  |some (j,_)=>bif qdH j dec then decK ops l dec s k else match(ops[j]?).bind (·.dst)with
   |none=>decK ops l dec s k
   |some t=>match s.get t with
    |some (.val .bool b)=>cond b (decK ops l (j::dec) (s.set t (.val .bool true)) k) (decK ops l (j::dec) (s.set t (.val .bool false)) k)
    |some .nil=>decK ops l (j::dec) s k
    |_=>decK ops l dec s k
def qfm(ops:Array Oper)(i:Nat):List Oper:=match ops[i]? with|some o=>[o]|none=>[]
noncomputable def qdI{R:Type}(cfg:jG)(ops:Array Oper)(k:St->Option R):Nat->Array Bool->List Nat->St->Option R
 |0,listed,_,s=>match Region.ready .any ops listed with
  |[]=>k s
  |_::_=>none
 |n+1,listed,dec,s=>decK ops (Region.ready .any ops listed) dec s λdec s=>match(Region.ready .any ops listed).find? (qnv cfg ops listed dec s)with
  |some i=>qau cfg ops (λs=>qdI cfg ops k n (listed.setIfInBounds i true) dec s) (qfm ops i) s
  |none=>match Region.ready .any ops listed with
   |[]=>k s
   |[i]=>qau cfg ops (λs=>qdI cfg ops k n (listed.setIfInBounds i true) dec s) (qfm ops i) s
   |i::j::l=>qc ((i::j::l).map λi=>qau cfg ops (λs=>qdI cfg ops k n (listed.setIfInBounds i true) dec s) (qfm ops i) s)
def frzT(cfg:jG)(s:St):Operand->St
 |.tmp t=>match lk cfg.site t with
  |none=>s
  |some τ=>bif τ.isFz then(match s.get t with
   |some (.ptr id [])=>s.freeze id
   |_=>s)else s
 |_=>s
def qgX(cfg:jG):List Oper->St->St
 |[],s=>s
 |o::r,s=>qgX cfg r (match o.op with
  |.fieldAddr _ x _=>frzT cfg s x
  |.load _ x=>frzT cfg s x
  |.indexAddr _ x _=>frzT cfg s x
  |_=>s)
def qat:Code->Option Nat
 |.region id _ _=>some id
 |.seq a b=>match qat a with
  |some n=>some n
  |none=>qat b
 |.cond _ a b=>match qat a with
  |some n=>some n
  |none=>qat b
 |.block _ c=>qat c
 |.loop c=>qat c
 |_=>none
def qhX{R:Type}(f:St->Option R)(k:X->St->Option R)(e:X)(s:St):Option R:=
 match e with
 |.norm=>f s
 |e=>k e s
def qkS{R:Type}(id:Nat)(k:X->St->Option R)(e:X)(s:St):Option R:=
 match e with
 |.exit j=>bif Nat.beq j id then k .norm s else k (.exit j) s
 |e=>k e s
def qkG(s:St):List Nat->Option (List AV)
 |[]=>some []
 |t::l=>match s.get t,qkG s l with
  |some a,some r=>some (a::r)
  |_,_=>none
def reads(p:jT):Bool:=
 match p with
 |.v _=>true
 |.r _=>true
 |.c _=>true
 |.gm _=>true
 |_=>false
def qbN(s:St):List jT->List AV->St
 |.gm _::ps,a::l=>match a with
  |.ptr id _=>qbN ((s.kill id).setObj id none) ps l
  |_=>qbN s ps l
 |_::ps,_::l=>qbN s ps l
 |_,_=>s
def bindP:List Nat->(a:Ty)->a.den->List (Nat×AV)
 |[p,q],.pair t u,x=>[(q,.val u x.2),(p,.val t x.1)]
 |[p],a,x=>[(p,.val a x)]
 |_,_,_=>[]
def okP(nt:Nat):List Nat->Ty->Bool
 |[p,q],.pair _ _=>Nat.blt p nt&&Nat.blt q nt
 |[_],.pair _ _=>false
 |[p],_=>Nat.blt p nt
 |_,_=>false
def AV.isNilT:AV->Bool
 |.nil=>true
 |_=>false
def qlE(f:Nat):AV->Nat
 |.nil=>f
 |_=>5000000+f
noncomputable def run{R:Type}(cfg:jG)(n:Nat):Code->St->(X->St->Option R)->Option R
 |.skip,s,k=>k .norm s
 |.ret,s,k=>k .ret s
 |.exit id,s,k=>k (.exit id) s
 |.region id ops draw,s,k=>bif draw&&s.mp.isSome then none else bif draw&&qdH id cfg.enum&&Region.noSelect ops then(match lk cfg.joins id with
  |some sk=>qa (qdI cfg ops sk.get ops.size (Array.replicate ops.size false) [] (qgX cfg ops.toList s)) λd=>k .norm (sk.fill d)
  |none=>qdI cfg ops (k .norm) ops.size (Array.replicate ops.size false) [] (qgX cfg ops.toList s))else qau cfg ops (k .norm) ops.toList s
 |.seq a b,s,k=>run cfg n a s (qhX (λs=>run cfg n b s k) k)
 |.cond c a b,s,k=>match qI s none c with
  |some (.val .bool c)=>cond c (run cfg n a s k) (run cfg n b s k)
  |_=>none
 |.block id c,s,k=>run cfg n c s (qkS id k)
 |.loop c,s,k=>match qat c with
  |none=>none
  |some key=>match lk cfg.loops key with
   |none=>match lk cfg.wloops key with
    |none=>none
    |some lw=>match lw.ins.get s with
     |none=>none
     |some d=>wpK (λS=>lw.w n d S=some ()) λo=>outK k lw.outs o
   |some li=>match li.ins.get s with
    |none=>none
    |some d=>qa (li.g n d) λo=>outK k li.outs o
 |.rangeFunc g ps assign _,s,k=>match qat assign,qI s none g with
  |some key,some (.fn f fa caps)=>match lk cfg.iters (qlE f fa),lk cfg.rloops key with
   |some it,some li=>match qkG s li.tl with
    |some l=>bif Nat.blt f 5000000&&fa.isTup&&caps.isTup&&(fa.isNilT||caps.isNilT)&&s.mp.isNone&&it.ps.all reads&&apart (qE it.ps (fa.list++caps.list)++qE li.ps l) (qt it.ps (fa.list++caps.list)++qt li.ps l)&&okP cfg.nt ps.toList li.a&&Nat.ble li.ps.length cfg.nt&&li.ps.all jT.noT then
      qbP cfg s it.ps (fa.list++caps.list) λdc=>qbP cfg s li.ps l λd=>qa (it.g dc) λxs0=>qa (qA (.list false 0 it.a) (.list false 0 li.a) xs0) λxs=>qa (li.g n xs d) λo=>
       pickK li.outs o.1 λe=>k e ((qx ((qbN (s.freezeAll (qt it.ps (fa.list++caps.list)++qt li.ps l)) it.ps (fa.list++caps.list)).killIf AV.isUpd) li.ps l o.2).withM none)else none
    |none=>none
   |_,_=>none
  |_,_=>none
 |_,_,_=>none
def jH(li:j7)(n:Nat)(e:X)(s:St):Option (Outs li.outs):=
 match e with
 |.norm=>match li.ins.get s with
  |some d=>li.g n d
  |none=>none
 |e=>qjF e s li.outs
def LoopEq(cfg:jG)(li:j7)(c:Code):Prop:=
 (∀d,li.g 0 d=none)/\∀n d,li.g (n+1) d=run cfg n c (li.ins.fill d) (jH li n)
noncomputable def qcL(lw:ql9)(n:Nat)(S:Outs lw.outs->Prop)(e:X)(s:St):Option Unit:=
 match e with
 |.norm=>match lw.ins.get s with
  |some d=>lw.w n d S
  |none=>none
 |e=>match qjF e s lw.outs with
  |some o=>asrt (S o)
  |none=>none
def qnG(cfg:jG)(lw:ql9)(c:Code):Prop:=
 (∀d S,lw.w 0 d S=none)/\∀n d S,lw.w (n+1) d S=run cfg n c (lw.ins.fill d) (qcL lw n S)
def qax(cfg:jG):Code->Prop
 |.seq a b=>qax cfg a/\qax cfg b
 |.cond _ a b=>qax cfg a/\qax cfg b
 |.block _ c=>qax cfg c
 |.loop c=>qax cfg c/\(∀key li,qat c=some key->lk cfg.loops key=some li->LoopEq cfg li c)/\∀key lw,qat c=some key->lk cfg.loops key=none->lk cfg.wloops key=some lw->qnG cfg lw c
 |_=>True
def pid(i:Nat):Nat:=10000000+i
def jW:(ps:List jT)->Nat->PDens ps->List (Nat×AV)
 |[],_,_=>[]
 |.v τ::ps,i,d=>(i,.val τ d.1)::jW ps (i+1) d.2
 |.r τ::ps,i,d=>(i,.ref τ d.1)::jW ps (i+1) d.2
 |.c f::ps,i,d=>(i,.fn f .nil .nil)::jW ps (i+1) d.2
 |.t _ _::ps,i,d=>(i,.view (pid i) [])::jW ps (i+1) d.2
 |.gm _::ps,i,d=>(i,.ptr (pid i) [])::jW ps (i+1) d.2
 |.cm f _::ps,i,d=>(i,.fn f .nil (.cons (.ptr (pid i) []) .nil))::jW ps (i+1) d.2
 |.m _::ps,i,d=>(i,.ptr (pid i) [])::jW ps (i+1) d.2
 |.mr _ _::ps,i,d=>(i,.view (pid i) [])::jW ps (i+1) d.2
def jF:(ps:List jT)->Nat->PDens ps->List (Nat×Option Obj)
 |[],_,_=>[]
 |.v _::ps,i,d=>jF ps (i+1) d.2
 |.r _::ps,i,d=>jF ps (i+1) d.2
 |.c _::ps,i,d=>jF ps (i+1) d.2
 |.t tid e::ps,i,d=>(pid i,some ⟨true,.list true tid e,d.1⟩)::jF ps (i+1) d.2
 |.gm τ::ps,i,d=>(pid i,some ⟨false,τ,d.1⟩)::jF ps (i+1) d.2
 |.cm _ τ::ps,i,d=>(pid i,some ⟨false,τ,d.1⟩)::jF ps (i+1) d.2
 |.m τ::ps,i,d=>(pid i,some ⟨false,τ,d.1⟩)::jF ps (i+1) d.2
 |.mr tid e::ps,i,d=>(pid i,some ⟨true,.list true tid e,d.1⟩)::jF ps (i+1) d.2
def qcx(ps:List jT)(d:PDens ps):St:=⟨jW ps 0 d,jF ps 0 d,none⟩
def jA(s:St):(ps:List jT)->Nat->Option (MDens ps)
 |[],_=>some ()
 |.v _::ps,i=>jA s ps (i+1)
 |.r _::ps,i=>jA s ps (i+1)
 |.c _::ps,i=>jA s ps (i+1)
 |.t _ _::ps,i=>jA s ps (i+1)
 |.gm _::ps,i=>jA s ps (i+1)
 |.cm _ τ::ps,i=>match s.obj (pid i)with
  |some o=>bif o.row then none else match qA o.τ τ o.x,jA s ps (i+1)with
   |some x,some d=>some (x,d)
   |_,_=>none
  |none=>none
 |.m τ::ps,i=>match s.obj (pid i)with
  |some o=>bif o.row then none else match qA o.τ τ o.x,jA s ps (i+1)with
   |some x,some d=>some (x,d)
   |_,_=>none
  |none=>none
 |.mr tid e::ps,i=>match s.obj (pid i)with
  |some o=>bif o.row then(match qA o.τ (.list true tid e) o.x,jA s ps (i+1)with
   |some x,some d=>some (x,d)
   |_,_=>none)else none
  |none=>none
def qaA:(ps:List jT)->Nat->List Nat
 |[],_=>[]
 |.v _::ps,i=>qaA ps (i+1)
 |.r _::ps,i=>qaA ps (i+1)
 |.c _::ps,i=>qaA ps (i+1)
 |.t _ _::ps,i=>qaA ps (i+1)
 |.gm _::ps,i=>qaA ps (i+1)
 |.cm _ _::ps,i=>pid i::qaA ps (i+1)
 |.m _::ps,i=>pid i::qaA ps (i+1)
 |.mr _ _::ps,i=>pid i::qaA ps (i+1)
def qgh(li:qdJ)(pl:List Nat)(d:PDens li.ps)(x:li.a.den):St:=⟨bindP pl li.a x++li.tl.zip ((jW li.ps 0 d).map (·.2)),jF li.ps 0 d,none⟩
def qkg(li:qdJ)(n:Nat)(r:List li.a.den)(d:PDens li.ps)(e:X)(s:St):Option (X×MDens li.ps):=
 match jA s li.ps 0 with
 |some md=>match e with
  |.norm=>li.g n r (j3 li.ps d md)
  |e=>some (e,md)
 |none=>none
def qlQ{R:Type}(_:X)(_:St):Option R:=none
noncomputable def qj1(cfg:jG)(li:qdJ)(n:Nat)(body:Code)(r:List li.a.den)(d:PDens li.ps)(s:St):Option (X×MDens li.ps):=
 bif s.mp.isNone then run cfg n body (s.killIf AV.isUpd) (qkg li n r d)else none
def qkW(cfg:jG)(li:qdJ)(pl:List Nat)(assign body:Code):Prop:=
 (∀n d,li.g n [] d=some (.norm,qbK li.ps d))/\∀n x r d,li.g n (x::r) d=run cfg n assign (qgh li pl d x) (qhX (qj1 cfg li n body r d) qlQ)
def qbS(cfg:jG):Code->Prop
 |.seq a b=>qbS cfg a/\qbS cfg b
 |.cond _ a b=>qbS cfg a/\qbS cfg b
 |.block _ c=>qbS cfg c
 |.loop c=>qbS cfg c
 |.rangeFunc _ ps assign body=>qax cfg assign/\qax cfg body/\∀key li,qat assign=some key->lk cfg.rloops key=some li->qkW cfg li ps.toList assign body
 |_=>True
def qh4{R:Type}(cfg:jG)(s:St)(v:ResultVar)(k:AV->Option R):Option R:=
 match v with
 |.tmp t=>match s.get t with
  |some a=>k a
  |none=>none
 |.cell t T=>match s.get t with
  |some a=>qlz s (lk cfg.ty T) a k
  |none=>none
def qhy{R:Type}(cfg:jG)(s:St)(used:List Nat):List ResultVar->(rs:List RTy)->(RDens rs->Option R)->Option R
 |[],[],k=>k ()
 |v::vs,.v τ::rs,k=>qh4 cfg s v λa=>bif apart a.touches used then qb8 s a τ λx=>qhy cfg s (a.touches++used) vs rs λd=>k (x,d)else none
 |v::vs,.own tid e::rs,k=>qh4 cfg s v λa=>match a with
  |.view id p=>bif jY id used then none else match s.obj id with
   |some o=>qa1 o.τ o.x p λσ y=>qa (qA σ (.list true tid e) y) λx=>qhy cfg s (id::used) vs rs λd=>k (x,d)
   |none=>none
  |_=>none
 |v::vs,.ownv τ::rs,k=>qh4 cfg s v λa=>match a with
  |.view id p=>bif jY id used || !qlg τ then none else match s.obj id with
   |some o=>qa1 o.τ o.x p λσ y=>qa (qA σ τ y) λx=>qhy cfg s (id::used) vs rs λd=>k (x,d)
   |none=>none
  |_=>none
 |v::vs,.sure nn tid e::rs,k=>qh4 cfg s v λa=>match a with
  |.view id []=>bif jY id used || !qfz id nn then none else match s.obj id with
   |some o=>bif o.row then qa (qA o.τ (.list true tid e) o.x) λx=>qhy cfg s (id::used) vs rs λd=>k (x,d)else none
   |none=>none
  |_=>none
 |v::vs,.optr τ::rs,k=>qh4 cfg s v λa=>match a with
  |.ptr id []=>bif jY id used then none else match s.obj id with
   |some o=>bif o.row then none else qa (qA o.τ τ o.x) λx=>qhy cfg s (id::used) vs rs λd=>k (x,d)
   |none=>none
  |_=>none
 |_,_,_=>none
def qfp(cfg:jG)(fn:Func)(ps:List jT)(rs:List RTy)(e:X)(s:St):Option (RDens rs×MDens ps):=
 match e with
 |.exit _=>none
 |_=>match jA s ps 0 with
  |some md=>qhy cfg s (qaA ps 0) fn.results.toList rs λd=>some (d,md)
  |none=>none
noncomputable def jC(cfg:jG)(n:Nat)(fn:Func)(c:Code)(ps:List jT)(rs:List RTy)(d:PDens ps):Option (RDens rs×MDens ps):=
 run cfg n c (qcx ps d) (qfp cfg fn ps rs)
end Go.Vi
namespace Go.Vi
inductive FB where
 |cells (c:Array Value)
 |map (es:Array MapEntry) (n:Nat)
def FB.At(w:World)(b:Nat):FB->Prop
 |.cells c=>∃t f,w.heap[b]? = some (.cells c t f)
 |.map es n=>w.heap[b]? = some (.map es n)
theorem FB.At.lt{w:World}{b:Nat}:{c:FB}->c.At w b->b<w.heap.size
 |.cells _,⟨_,_,h⟩=>(Array.getElem?_eq_some_iff.1 h).1
 |.map _ _,h=>(Array.getElem?_eq_some_iff.1 h).1
theorem FB.At.block{w w':World}{b:Nat}(e:w'.heap[b]? = w.heap[b]?):{c:FB}->c.At w b->c.At w' b
 |.cells _,⟨t,f,h⟩=>⟨t,f,e.trans h⟩
 |.map _ _,h=>Eq.trans e h
abbrev FH:=Nat->Option FB
def FH.le(H H':FH):Prop:=∀b c,H b=some c->H' b=some c
theorem FH.le_refl(H:FH):H.le H:=λ_ _ h=>h
theorem FH.le_trans{A B C:FH}(h:A.le B)(k:B.le C):A.le C:=λb c e=>k b c (h b c e)
def HOk(H:FH)(w:World):Prop:=∀b c,H b=some c->c.At w b
theorem HOk.lt{H:FH}{w:World}(h:HOk H w){b:Nat}{c:FB}(hb:H b=some c):b<w.heap.size:=(h b c hb).lt
theorem HOk.cells{H:FH}{w:World}(h:HOk H w){b:Nat}{c:Array Value}(hb:H b=some (.cells c)):∃t f,w.heap[b]? = some (.cells c t f):=h b _ hb
structure jM (M:Nat->Prop) (w w':World):Prop where
 os:w'.os=w.os
 tape:w'.tape=w.tape
 output:w'.output=w.output
 size:w.heap.size<=w'.heap.size
 block:∀k,k<w.heap.size->¬M k->w'.heap[k]? = w.heap[k]?
theorem jM.refl(M:Nat->Prop)(w:World):jM M w w:=⟨rfl,rfl,rfl,Nat.le_refl _,λ_ _ _=>rfl⟩
theorem jM.trans{M:Nat->Prop}{a b c:World}(h:jM M a b)(k:jM M b c):jM M a c:=
 ⟨k.os.trans h.os,k.tape.trans h.tape,k.output.trans h.output,Nat.le_trans h.size k.size,λi hi hm=>(k.block i (Nat.lt_of_lt_of_le hi h.size) hm).trans (h.block i hi hm)⟩
theorem jM.trans_new{M N:Nat->Prop}{a b c:World}(h:jM M a b)(k:jM N b c)(hN:∀i,N i->M i\/a.heap.size<=i):jM M a c:=
 ⟨k.os.trans h.os,k.tape.trans h.tape,k.output.trans h.output,Nat.le_trans h.size k.size,λi hi hm=>(k.block i (Nat.lt_of_lt_of_le hi h.size) (λhn=>(hN i hn).elim hm (λe=>by omega))).trans (h.block i hi hm)⟩
theorem jM.mono{M N:Nat->Prop}{a b:World}(h:jM M a b)(hN:∀i,M i->N i):jM N a b:=
 ⟨h.os,h.tape,h.output,h.size,λi hi hm=>h.block i hi (λhh=>hm (hN i hh))⟩
def qV:Nat->Prop:=λ_=>False
theorem HOk.mod{H:FH}{M:Nat->Prop}{w w':World}(h:HOk H w)(hm:jM M w w')(hM:∀b,M b->H b=none):HOk H w':=by
 intro b c hb
 exact(h b c hb).block (hm.block b (h.lt hb) (λhh=>by rw[hM b hh]at hb;cases hb))
def seg(c:Array Value)(o n:Nat):List Value:=(c.toList.drop o).take n
def jZ(τ:Ty)(cs:List Value):Value:=bif τ.isAgg then .agg cs.toArray else cs.headD undef
def qe{α:Type}(R:α->List Value->List Nat->Prop):List α->List Value->List Nat->Prop
 |[],xs,fp=>xs=[]/\fp=[]
 |x::l,xs,fp=>∃c xs' f fp',xs=c++xs'/\fp=f++fp'/\R x c f/\qe R l xs' fp'
def qW(P:Program)(f:Nat):Prop:=∃fn,P.funcs[f]? = some fn/\(fn.name == "runtime.NumGoroutine")=false/\fn.body.isSome=true
def jN(k:XK):Value:=.agg #[.int .i64 k.1,.int .i64 k.2]
def numV(n:Int):Value:=.int .i64 n
def qcO(x:XK×XK):Value:=.agg #[.int .i64 x.1.1,.int .i64 x.1.2,.int .i64 x.2.1,.int .i64 x.2.2]
def qcD(x:XK×XK):List Value:=[.int .i64 x.1.1,.int .i64 x.1.2,.int .i64 x.2.1,.int .i64 x.2.2]
abbrev MV:=DataW Value
def qer(v:Value):Option (MV×List MemPlace):=some (.held v,[])
structure qfw (P:Program) (kt:Nat) {β:Type} (ev:β->Value) (D:MV) (kv:List (XK×β)):Prop where
 has:∀k kl,keyOf P kt (jN k)=some kl->Maps.has D kl=(qX kv k).isSome
 val:∀k kl z,keyOf P kt (jN k)=some kl->D.atKey kl z=match qX kv k with|some v=>.held (ev v)|none=>z
 size:Maps.size D=kv.length
 nd:(kv.map (·.1)).Nodup
 keys:∀kl,Maps.has D kl=true->∃k,k∈kv.map (·.1)/\keyOf P kt (jN k)=some kl
 kof:∀k∈kv.map (·.1),∃kl,keyOf P kt (jN k)=some kl
def qeu(P:Program)(kt:Nat){β:Type}(ev:β->Value)(w:World)(b:Nat)(kv:List (XK×β)):Prop:=
 ∃D:MV,w.ownsMap P kt qer b kv.length D/\qfw P kt ev D kv
def MapF(P:Program)(kt:Nat){β:Type}(ev:β->Value)(c:FB)(kv:List (XK×β)):Prop:=
 ∃es n,∃D:MV,c = .map es n/\WideElems.Fit P kt qer es n/\es.size<=kv.length/\D = .map ((es.toList.map (WideElems.rg P kt qer)).foldr DataW.insert [])/\qfw P kt ev D kv
theorem qeu.block{P:Program}{kt:Nat}{β:Type}{ev:β->Value}{w w':World}{b:Nat}{kv:List (XK×β)}(h:qeu P kt ev w b kv)(e:w'.heap[b]? = w.heap[b]?):qeu P kt ev w' b kv:=by
 obtain⟨D,⟨es,n,h1,h2⟩,h3⟩:=h
 exact⟨D,⟨es,n,e.trans h1,h2⟩,h3⟩
theorem qeu.fz{P:Program}{kt:Nat}{β:Type}{ev:β->Value}{w:World}{b:Nat}{kv:List (XK×β)}(h:qeu P kt ev w b kv):∃es n,w.heap[b]? = some (.map es n)/\MapF P kt ev (.map es n) kv:=by
 obtain⟨D,⟨es,n,h1,h2,h3,h4⟩,h5⟩:=h
 exact⟨es,n,h1,es,n,D,rfl,h2,h3,h4,h5⟩
theorem MapF.mapX{P:Program}{kt:Nat}{β:Type}{ev:β->Value}{w:World}{b:Nat}{c:FB}{kv:List (XK×β)}(h:MapF P kt ev c kv)(hc:c.At w b):qeu P kt ev w b kv:=by
 obtain⟨es,n,D,rfl,h2,h3,h4,h5⟩:=h
 exact⟨D,⟨es,n,hc,h2,h3,h4⟩,h5⟩
def IterX(P:Program)(kt:Nat)(w:World)(H:FH)(r:Nat)(x:List (XK×XK)×Option (XK×XK)):Prop:=
 ∃(b:Nat) (es:Array MapEntry) (n since:Nat) (seen:Array Nat) (c0:Nat) (D:MV) (left:Lit->Bool) (kv:List (XK×XK)),
  H b=some (.map es n)/\WideElems.Fit P kt qer es n/\D = .map ((es.toList.map (WideElems.rg P kt qer)).foldr DataW.insert [])/\qfw P kt jN D kv/\
  w.heap[r]? = some (.mapIter (some b) since seen c0)/\(∀y∈es.toList,y.born<since)/\
  (∀y∈es.toList,left (WideElems.rg P kt qer y).1 = !seen.contains y.born)/\(∀kl,left kl=true->∃y∈es.toList,(WideElems.rg P kt qer y).1=kl)/\since<=c0/\since<=n/\
  (∀k kl,keyOf P kt (jN k)=some kl->(left kl=true↔k∈x.1.map (·.1)))/\(∀y∈x.1,qX kv y.1=some y.2)/\
  ∀y,x.2=some y->∃(en:MapEntry) (seen0:Array Nat),seen=seen0.push en.born/\c0=n/\en∈es.toList/\en.key=jN y.1/\en.val=jN y.2
def qbZ(i j:Nat)(w:World)(l:List (XK×XK))(cs:List Value)(fp:List Nat):Prop:=
 ∃b tt hdr,cs=[.iface i (.pointer (some ⟨b,0,none⟩))]/\fp=b::hdr.ownBlock.toList/\w.heap[b]? = some (.cells #[hdr] tt (0,0))/\w.ownsRow 0 j 4 hdr l.length (l.map qcD).flatten
def AnyX(cs:List Value)(fp:List Nat):Prop:=fp=[]/\∃v:Value,cs=[v]/\v.oneCell'=true
def RowX(i:Nat)(w:World)(n:Nat)(cs:List Value)(fp:List Nat):Prop:=∃hdr xs,cs=[hdr]/\fp=hdr.ownBlock.toList/\w.ownsRow 0 i 1 hdr n xs
def qS(P:Program)(own:Bool)(i j:Nat)(w:World)(H:FH):(n:Nat)->qcM n->List Value->List Nat->Prop
 |0,x,cs,fp=>match x with
  |none=>cs=[.map none]/\fp=[]
  |some kv=>∃b,cs=[.map (some b)]/\match own with
   |true=>fp=[b]/\qeu P i jN w b kv
   |false=>fp=[]/\∃c,H b=some c/\MapF P i jN c kv
 |1,x,cs,fp=>match own with
  |true=>match x with
   |none=>cs=[.map none]/\fp=[]
   |some kv=>∃b,cs=[.map (some b)]/\fp=[b]/\qeu P i numV w b kv
  |false=>AnyX cs fp
 |2,x,cs,fp=>cs=[.iface i (qcO x)]/\fp=[]
 |3,x,cs,fp=>match own with
  |true=>∃r,cs=[.pointer (some ⟨r,0,none⟩)]/\fp=[r]/\IterX P i w H r x
  |false=>AnyX cs fp
 |4,x,cs,fp=>match own with
  |true=>match x with
   |none=>cs=[.nilIface]/\fp=[]
   |some l=>qbZ i j w l cs fp
  |false=>AnyX cs fp
 |_+5,x,cs,fp=>match own with
  |true=>match x with
   |none=>AnyX cs fp
   |some n=>RowX i w n cs fp
  |false=>AnyX cs fp
def qm(P:Program):(τ:Ty)->World->FH->τ.den->List Value->List Nat->Prop
 |.int k,_,_,x,cs,fp=>cs=[.int k x]/\fp=[]
 |.bool,_,_,x,cs,fp=>cs=[.bool x]/\fp=[]
 |.list false _ e,w,H,l,cs,fp=>fp=[]/\∃a cap,cs=[.slice a l.length cap]/\l.length<=cap/\
   (l=[]\/∃b o blk,a=some ⟨b,o,none⟩/\H b=some (.cells blk)/\qe (qm P e w H) l (seg blk o (l.length*e.size)) [])
 |.list true tid e,w,H,l,cs,fp=>∃hdr xs fp',cs=[hdr]/\fp=hdr.ownBlock.toList++fp'/\w.ownsRow 0 tid e.size hdr l.length xs/\qe (qm P e w H) l xs fp'
 |.pair a b,w,H,x,cs,fp=>∃c1 c2 f1 f2,cs=c1++c2/\fp=f1++f2/\qm P a w H x.1 c1 f1/\qm P b w H x.2 c2 f2
 |.str t,w,H,x,cs,fp=>qm P t w H x cs fp
 |.ptr t,w,H,x,cs,fp=>fp=[]/\match x with
   |none=>cs=[.pointer none]
   |some y=>∃b o blk,cs=[.pointer (some ⟨b,o,none⟩)]/\H b=some (.cells blk)/\qm P t w H y (seg blk o t.size) []
 |.op t,w,H,x,cs,fp=>match x with
   |none=>cs=[.pointer none]/\fp=[]
   |some y=>∃b blk tt fp',cs=[.pointer (some ⟨b,0,none⟩)]/\fp=b::fp'/\w.heap[b]? = some (.cells blk tt (0,0))/\qm P t w H y blk.toList fp'
 |.arr n e,w,H,l,cs,fp=>l.length=n/\qe (qm P e w H) l cs fp
 |.fn a r,_,H,g,cs,fp=>fp=[]/\∃f first caps,cs=[.func (.func f) first caps]/\qW P f/\
   ∀x y,g x=some y->∀H' w' cx,H.le H'->HOk H' w'->qm P a w' H' x cx []->
    Calls P f (first ++ #[jZ a cx]++caps) w' λe w''=>∃cy,e = .returned (jZ r cy)/\jM qV w' w''/\qm P r w'' H' y cy []
 |.fn2 a b r,_,H,g,cs,fp=>fp=[]/\∃f first caps,cs=[.func (.func f) first caps]/\qW P f/\
   ∀x y z,g x y=some z->∀H' w' cx cy,H.le H'->HOk H' w'->qm P a w' H' x cx []->qm P b w' H' y cy []->
    Calls P f (first ++ #[jZ a cx,jZ b cy]++caps) w' λe w''=>∃cz,e = .returned (jZ r cz)/\jM qV w' w''/\qm P r w'' H' z cz []
 |.ext own n i j,w,H,x,cs,fp=>qS P own i j w H n x cs fp
section chunks
variable {α:Type} {R S:α->List Value->List Nat->Prop}
theorem qe.mono(h:∀x c f,R x c f->S x c f):∀{l:List α} {xs fp},qe R l xs fp->qe S l xs fp
 |[],_,_,hh=>hh
 |_::_,_,_,⟨c,xs',f,fp',e1,e2,h1,h2⟩=>⟨c,xs',f,fp',e1,e2,h _ _ _ h1,qe.mono h h2⟩
theorem qe.mono_fp{Q:Nat->Prop}(h:∀x c f,(∀b∈f,Q b)->R x c f->S x c f):∀{l:List α} {xs fp},(∀b∈fp,Q b)->qe R l xs fp->qe S l xs fp
 |[],_,_,_,hh=>hh
 |_::_,_,_,hq,⟨c,xs',f,fp',e1,e2,h1,h2⟩=>
  ⟨c,xs',f,fp',e1,e2,h _ _ _ (λb hb=>hq b (by rw[e2];simp[hb])) h1,qe.mono_fp h (λb hb=>hq b (by rw[e2];simp[hb])) h2⟩
theorem qe.length{n:Nat}(h:∀x c f,R x c f->c.length=n):∀{l:List α} {xs fp},qe R l xs fp->xs.length=l.length*n
 |[],_,_,⟨e,_⟩=>by simp[e]
 |_::l,_,_,⟨c,xs',f,fp',e1,e2,h1,h2⟩=>by
  rw[e1,List.length_append,h _ _ _ h1,qe.length h h2,List.length_cons,Nat.add_mul];omega
theorem qe.all{p:Value->Prop}(h:∀x c f,R x c f->∀v∈c,p v):∀{l:List α} {xs fp},qe R l xs fp->∀v∈xs,p v
 |[],_,_,⟨e,_⟩=>by simp[e]
 |_::l,_,_,⟨c,xs',f,fp',e1,e2,h1,h2⟩=>by
  intro v hv
  rw[e1,List.mem_append]at hv
  exact hv.elim (h _ _ _ h1 v) (qe.all h h2 v)
theorem qe.append:∀{l l':List α} {xs ys fp fq},qe R l xs fp->qe R l' ys fq->qe R (l++l') (xs++ys) (fp++fq)
 |[],_,_,_,_,_,⟨e,e'⟩,hh=>by simpa[e,e']using hh
 |_::_,_,_,_,_,_,⟨c,xs',f,fp',e1,e2,h1,h2⟩,hh=>
  ⟨c,xs'++_,f,fp'++_,by rw[e1,List.append_assoc],by rw[e2,List.append_assoc],h1,qe.append h2 hh⟩
theorem qe.split:∀{l l':List α} {xs fp},qe R (l++l') xs fp->∃ys zs f g,xs=ys++zs/\fp=f++g/\qe R l ys f/\qe R l' zs g
 |[],_,xs,fp,hh=>⟨[],xs,[],fp,rfl,rfl,⟨rfl,rfl⟩,hh⟩
 |_::_,_,_,_,⟨c,xs',f,fp',e1,e2,h1,h2⟩=>by
  obtain⟨ys,zs,f2,g2,e3,e4,h3,h4⟩:=qe.split h2
  exact⟨c++ys,zs,f++f2,g2,by rw[e1,e3,List.append_assoc],by rw[e2,e4,List.append_assoc],⟨c,ys,f,f2,rfl,rfl,h1,h3⟩,h4⟩
theorem qe.one{x:α}{c f}(h:R x c f):qe R [x] c f:=⟨c,[],f,[],by simp,by simp,h,rfl,rfl⟩
theorem qe.at{l:List α}{xs fp}(h:qe R l xs fp){i:Nat}{x:α}(hx:l[i]? = some x):
  ∃pre c post f1 f f2,xs=pre++c++post/\fp=f1++f++f2/\qe R (l.take i) pre f1/\R x c f/\qe R (l.drop (i+1)) post f2:=by
 obtain⟨hi,rfl⟩:=List.getElem?_eq_some_iff.1 hx
 have e:l=l.take i++l[i]::l.drop (i+1):=by simp
 rw[e]at h
 obtain⟨ys,zs,f,g,rfl,rfl,h1,c,xs',f',fp',rfl,rfl,h2,h3⟩:=qe.split h
 refine⟨ys,c,xs',f,f',fp',by simp,by simp,?_,?_,?_⟩
 ·exact h1
 ·exact h2
 ·exact h3
theorem qe.take{n:Nat}(hn:∀x c f,R x c f->c.length=n){l:List α}{xs fp}(h:qe R l xs fp)(i:Nat):∃f,qe R (l.take i) (xs.take (i*n)) f/\∃g,fp=f++g:=by
 have e:l=l.take i++l.drop i:=(List.take_append_drop i l).symm
 rw[e]at h
 obtain⟨ys,zs,f,g,rfl,rfl,h1,h2⟩:=qe.split h
 refine⟨f,?_,g,rfl⟩
 have hl:=qe.length hn h1
 by_cases hi:i<=l.length
 ·have:ys.length=i*n:=by rw[hl];simp[hi]
  rw[<-this,List.take_left];exact h1
 ·have h0:l.drop i=[]:=List.drop_eq_nil_of_le (by omega)
  rw[h0]at h2
  obtain⟨rfl,rfl⟩:=h2
  have e2:ys.take (i*n)=ys:=List.take_of_length_le (by rw[hl];refine Nat.mul_le_mul_right _ ?_;simp;omega)
  rw[List.append_nil,e2]
  exact h1
theorem qe.drop{n:Nat}(hn:∀x c f,R x c f->c.length=n){l:List α}{xs fp}(h:qe R l xs fp)(i:Nat):∃f,qe R (l.drop i) (xs.drop (i*n)) f/\∃g,fp=g++f:=by
 have e:l=l.take i++l.drop i:=(List.take_append_drop i l).symm
 rw[e]at h
 obtain⟨ys,zs,f,g,rfl,rfl,h1,h2⟩:=qe.split h
 refine⟨g,?_,f,rfl⟩
 have hl:=qe.length hn h1
 by_cases hi:i<=l.length
 ·have:ys.length=i*n:=by rw[hl];simp[hi]
  rw[<-this,List.drop_left];exact h2
 ·have h0:l.drop i=[]:=List.drop_eq_nil_of_le (by omega)
  rw[h0]at h2 ⊢
  obtain⟨rfl,rfl⟩:=h2
  have e2:ys.drop (i*n)=[]:=List.drop_eq_nil_of_le (by rw[hl];refine Nat.mul_le_mul_right _ ?_;simp;omega)
  rw[List.append_nil,e2]
  exact⟨rfl,rfl⟩
theorem qe.replicate{x:α}{c}(h:R x c []):∀n,qe R (List.replicate n x) (List.replicate n c).flatten []
 |0=>⟨rfl,rfl⟩
 |n+1=>⟨c,(List.replicate n c).flatten,[],[],by simp[List.replicate_succ],rfl,h,qe.replicate h n⟩
end chunks
section laws
variable {P:Program}
theorem qhz{w:World}{tid size n:Nat}{v:Value}{xs:List Value}(h:w.ownsRow 0 tid size v n xs):v.oneCell'=true:=by
 rcases h.2 with⟨rfl,_⟩|⟨g,cap,cur,rfl,_⟩<;>rfl
theorem qcw{w w':World}{tid size n:Nat}{v:Value}{xs:List Value}(h:w.ownsRow 0 tid size v n xs)
  (hb:∀b∈v.ownBlock.toList,w'.heap[b]? = w.heap[b]?):w'.ownsRow 0 tid size v n xs:=by
 refine⟨h.1,?_⟩
 rcases h.2 with hn|⟨g,cap,cur,rfl,h0,hg,rest⟩
 ·exact .inl hn
 ·exact .inr ⟨g,cap,cur,rfl,h0,by rw[hb g (by simp[Value.ownBlock])];exact hg,rest⟩
theorem qS.shape{own:Bool}{i j:Nat}{w:World}{H:FH}:{n:Nat}->{x:qcM n}->{cs:List Value}->{fp:List Nat}->qS P own i j w H n x cs fp->∃v:Value,cs=[v]/\v.oneCell'=true
 |0,x,cs,fp,h=>by
  cases x with
  |none=>exact⟨_,h.1,rfl⟩
  |some kv=>obtain⟨b,h,_⟩:=h;exact⟨_,h,rfl⟩
 |1,x,cs,fp,h=>by
  cases own with
  |false=>exact h.2
  |true=>
   cases x with
   |none=>exact⟨_,h.1,rfl⟩
   |some kv=>obtain⟨b,h,_⟩:=h;exact⟨_,h,rfl⟩
 |2,x,cs,fp,h=>⟨_,h.1,rfl⟩
 |3,x,cs,fp,h=>by
  cases own with
  |false=>exact h.2
  |true=>obtain⟨b,h,_⟩:=h;exact⟨_,h,rfl⟩
 |4,x,cs,fp,h=>by
  cases own with
  |false=>exact h.2
  |true=>
   cases x with
   |none=>exact⟨_,h.1,rfl⟩
   |some l=>obtain⟨b,tt,hdr,h,_⟩:=h;exact⟨_,h,rfl⟩
 |n+5,x,cs,fp,h=>by
  cases own with
  |false=>exact h.2
  |true=>
   cases x with
   |none=>exact h.2
   |some l=>
    obtain⟨hdr,xs,h,_,h2⟩:=h
    refine⟨_,h,?_⟩
    rcases h2.2 with⟨rfl,_⟩|⟨g,cap,cur,rfl,_⟩<;>rfl
theorem qS.mono{own:Bool}{i j:Nat}{w w':World}{H H':FH}(hH:H.le H'):{n:Nat}->{x:qcM n}->{cs:List Value}->{fp:List Nat}->(∀b∈fp,w'.heap[b]? = w.heap[b]?)->qS P own i j w H n x cs fp->qS P own i j w' H' n x cs fp
 |0,x,cs,fp,hw,h=>by
  cases x with
  |none=>exact h
  |some kv=>
   obtain⟨b,h1,h2⟩:=h
   refine⟨b,h1,?_⟩
   cases own with
   |true=>exact⟨h2.1,h2.2.block (hw b (by rw[h2.1];simp))⟩
   |false=>obtain⟨h2,c,h3,h4⟩:=h2;exact⟨h2,c,hH _ _ h3,h4⟩
 |1,x,cs,fp,hw,h=>by
  cases own with
  |false=>exact h
  |true=>
   cases x with
   |none=>exact h
   |some kv=>
    obtain⟨b,h1,h2,h3⟩:=h
    exact⟨b,h1,h2,h3.block (hw b (by rw[h2];simp))⟩
 |2,x,cs,fp,hw,h=>h
 |3,x,cs,fp,hw,h=>by
  cases own with
  |false=>exact h
  |true=>
   obtain⟨r,h1,h2,b,es,n,since,seen,c0,D,left,kv,q1,q2,q3,q4,q5,q6⟩:=h
   exact⟨r,h1,h2,b,es,n,since,seen,c0,D,left,kv,hH _ _ q1,q2,q3,q4,(hw r (by rw[h2];simp)).trans q5,q6⟩
 |4,x,cs,fp,hw,h=>by
  cases own with
  |false=>exact h
  |true=>
   cases x with
   |none=>exact h
   |some l=>
    obtain⟨b,tt,hdr,h1,h2,h3,h4⟩:=h
    exact⟨b,tt,hdr,h1,h2,(hw b (by rw[h2];simp)).trans h3,qcw h4 (λk hk=>hw k (by rw[h2];exact List.mem_cons_of_mem _ hk))⟩
 |n+5,x,cs,fp,hw,h=>by
  cases own with
  |false=>exact h
  |true=>
   cases x with
   |none=>exact h
   |some l=>
    obtain⟨hdr,xs,h1,h2,h3⟩:=h
    exact⟨hdr,xs,h1,h2,qcw h3 (λk hk=>hw k (by rw[h2];exact hk))⟩
theorem qS.fz_fp{i j:Nat}{w:World}{H:FH}:{n:Nat}->{x:qcM n}->{cs:List Value}->{fp:List Nat}->qS P false i j w H n x cs fp->fp=[]
 |0,x,cs,fp,h=>by
  cases x with
  |none=>exact h.2
  |some kv=>obtain⟨b,_,h,_⟩:=h;exact h
 |1,_,_,_,h=>h.1
 |2,_,_,_,h=>h.2
 |3,_,_,_,h=>h.1
 |4,_,_,_,h=>h.1
 |_+5,_,_,_,h=>h.1
theorem qS.closed{i j:Nat}{w:World}{H H':FH}:{n:Nat}->{x:qcM n}->{cs:List Value}->{fp:List Nat}->Nat.beq n 3=false->qS P true i j w H n x cs fp->qS P true i j w H' n x cs fp
 |0,x,cs,fp,_,h=>by
  cases x with
  |none=>exact h
  |some kv=>exact h
 |1,x,_,_,_,h=>h
 |2,_,_,_,_,h=>h
 |3,_,_,_,hn,_=>by cases hn
 |4,_,_,_,_,h=>h
 |_+5,_,_,_,_,h=>h
theorem Ty.size_pos:(τ:Ty)->τ.isAgg=false->(∀a b,τ≠.pair a b)->τ.size=1
 |.int _,_,_=>rfl
 |.bool,_,_=>rfl
 |.list _ _ _,_,_=>rfl
 |.pair a b,_,h=>absurd rfl (h a b)
 |.ptr _,_,_=>rfl
 |.op _,_,_=>rfl
 |.fn _ _,_,_=>rfl
 |.ext _ _ _ _,_,_=>rfl
 |.fn2 _ _ _,_,_=>rfl
 |.str _,h,_=>by simp[Ty.isAgg]at h
 |.arr _ _,h,_=>by simp[Ty.isAgg]at h
theorem qm.length:(τ:Ty)->∀{w H x cs fp},qm P τ w H x cs fp->cs.length=τ.size
 |.int _,_,_,_,_,_,h=>by rw[h.1];rfl
 |.bool,_,_,_,_,_,h=>by rw[h.1];rfl
 |.list false _ _,_,_,_,_,_,h=>by obtain⟨_,_,_,e,_⟩:=h;rw[e];rfl
 |.list true _ _,_,_,_,_,_,h=>by obtain⟨_,_,_,e,_⟩:=h;rw[e];rfl
 |.pair a b,_,_,_,_,_,h=>by
  obtain⟨c1,c2,f1,f2,e,_,h1,h2⟩:=h
  rw[e,List.length_append,qm.length a h1,qm.length b h2];rfl
 |.str t,_,_,_,_,_,h=>qm.length t h
 |.ptr t,_,_,x,_,_,h=>by
  cases x with
  |none=>rw[h.2];rfl
  |some y=>obtain⟨_,_,_,_,e,_⟩:=h;rw[e];rfl
 |.op t,_,_,x,_,_,h=>by
  cases x with
  |none=>rw[h.1];rfl
  |some y=>obtain⟨_,_,_,_,e,_⟩:=h;rw[e];rfl
 |.arr n e,_,_,_,_,_,h=>by
  rw[qe.length (n:=e.size) (λ_ _ _ hh=>qm.length e hh) h.2,h.1];rfl
 |.fn _ _,_,_,_,_,_,h=>by obtain⟨_,_,_,_,e,_⟩:=h;rw[e];rfl
 |.ext _ _ _ _,_,_,_,_,_,h=>by obtain⟨v,e,_⟩:=qS.shape h;rw[e];rfl
 |.fn2 _ _ _,_,_,_,_,_,h=>by obtain⟨_,_,_,_,e,_⟩:=h;rw[e];rfl
theorem qm.one:(τ:Ty)->∀{w H x cs fp},qm P τ w H x cs fp->∀v∈cs,v.oneCell'=true
 |.int _,_,_,_,_,_,h=>by rw[h.1];simp[Value.oneCell']
 |.bool,_,_,_,_,_,h=>by rw[h.1];simp[Value.oneCell']
 |.list false _ _,_,_,_,_,_,h=>by obtain⟨_,_,_,e,_⟩:=h;rw[e];simp[Value.oneCell']
 |.list true _ _,_,_,_,_,_,h=>by
  obtain⟨_,_,_,e,_,ho,_⟩:=h
  rw[e];simpa using qhz ho
 |.pair a b,_,_,_,_,_,h=>by
  obtain⟨c1,c2,f1,f2,e,_,h1,h2⟩:=h
  intro v hv
  rw[e,List.mem_append]at hv
  exact hv.elim (qm.one a h1 v) (qm.one b h2 v)
 |.str t,_,_,_,_,_,h=>qm.one t h
 |.ptr t,_,_,x,_,_,h=>by
  cases x with
  |none=>rw[h.2];simp[Value.oneCell']
  |some y=>obtain⟨_,_,_,_,e,_⟩:=h;rw[e];simp[Value.oneCell']
 |.op t,_,_,x,_,_,h=>by
  cases x with
  |none=>rw[h.1];simp[Value.oneCell']
  |some y=>obtain⟨_,_,_,_,e,_⟩:=h;rw[e];simp[Value.oneCell']
 |.arr n e,_,_,_,_,_,h=>qe.all (λ_ _ _ hh=>qm.one e hh) h.2
 |.fn _ _,_,_,_,_,_,h=>by obtain⟨_,_,_,_,e,_⟩:=h;rw[e];simp[Value.oneCell']
 |.ext _ _ _ _,_,_,_,_,_,h=>by obtain⟨v,e,h1⟩:=qS.shape h;rw[e];simpa using h1
 |.fn2 _ _ _,_,_,_,_,_,h=>by obtain⟨_,_,_,_,e,_⟩:=h;rw[e];simp[Value.oneCell']
theorem qm.mono:(τ:Ty)->∀{w w':World} {H H':FH} {x cs fp},H.le H'->(∀b∈fp,w'.heap[b]? = w.heap[b]?)->qm P τ w H x cs fp->qm P τ w' H' x cs fp
 |.int _,_,_,_,_,_,_,_,_,_,h=>h
 |.bool,_,_,_,_,_,_,_,_,_,h=>h
 |.list false _ e,w,w',H,H',l,cs,fp,hH,_,h=>by
  obtain⟨e0,a,cap,e1,hc,h2⟩:=h
  refine⟨e0,a,cap,e1,hc,h2.imp id ?_⟩
  rintro⟨b,o,blk,ea,hb,hch⟩
  exact⟨b,o,blk,ea,hH _ _ hb,qe.mono_fp (Q:=λ_=>False) (λx c f hf hr=>qm.mono e hH (λb hb=>(hf b hb).elim) hr) (by simp) hch⟩
 |.list true tid e,w,w',H,H',l,cs,fp,hH,hw,h=>by
  obtain⟨hdr,xs,fp',e1,e2,ho,hch⟩:=h
  refine⟨hdr,xs,fp',e1,e2,qcw ho (λb hb=>hw b (by rw[e2];simp[hb])),?_⟩
  exact qe.mono_fp (Q:=λb=>w'.heap[b]? = w.heap[b]?) (λx c f hf hr=>qm.mono e hH hf hr) (λb hb=>hw b (by rw[e2];simp[hb])) hch
 |.pair a b,w,w',H,H',x,cs,fp,hH,hw,h=>by
  obtain⟨c1,c2,f1,f2,e,ef,h1,h2⟩:=h
  exact⟨c1,c2,f1,f2,e,ef,qm.mono a hH (λb hb=>hw b (by rw[ef];simp[hb])) h1,qm.mono b hH (λb hb=>hw b (by rw[ef];simp[hb])) h2⟩
 |.str t,_,_,_,_,_,_,_,hH,hw,h=>qm.mono t hH hw h
 |.ptr t,w,w',H,H',x,cs,fp,hH,hw,h=>by
  obtain⟨e0,h⟩:=h
  refine⟨e0,?_⟩
  cases x with
  |none=>exact h
  |some y=>
   obtain⟨b,o,blk,e1,hb,hr⟩:=h
   exact⟨b,o,blk,e1,hH _ _ hb,qm.mono t hH (by simp) hr⟩
 |.op t,w,w',H,H',x,cs,fp,hH,hw,h=>by
  cases x with
  |none=>exact h
  |some y=>
   obtain⟨b,blk,tt,fp',e1,e2,hb,hr⟩:=h
   exact⟨b,blk,tt,fp',e1,e2,(hw b (by rw[e2];simp)).trans hb,qm.mono t hH (λk hk=>hw k (by rw[e2];simp[hk])) hr⟩
 |.arr n e,w,w',H,H',l,cs,fp,hH,hw,h=>
  ⟨h.1,qe.mono_fp (Q:=λb=>w'.heap[b]? = w.heap[b]?) (λx c f hf hr=>qm.mono e hH hf hr) hw h.2⟩
 |.fn a r,w,w',H,H',g,cs,fp,hH,hw,h=>by
  obtain⟨e0,f,first,caps,e1,hc,h2⟩:=h
  exact⟨e0,f,first,caps,e1,hc,λx y hg H2 w2 cx hle=>h2 x y hg H2 w2 cx (FH.le_trans hH hle)⟩
 |.ext _ _ _ _,_,_,_,_,_,_,_,hH,hw,h=>qS.mono hH hw h
 |.fn2 a b r,w,w',H,H',g,cs,fp,hH,hw,h=>by
  obtain⟨e0,f,first,caps,e1,hc,h2⟩:=h
  exact⟨e0,f,first,caps,e1,hc,λx y z hg H2 w2 cx cy hle=>h2 x y z hg H2 w2 cx cy (FH.le_trans hH hle)⟩
theorem qe.fp_nil{α:Type}{R:α->List Value->List Nat->Prop}(h:∀x c f,R x c f->f=[]):∀{l:List α} {xs fp},qe R l xs fp->fp=[]
 |[],_,_,⟨_,e⟩=>e
 |_::_,_,_,⟨c,xs',f,fp',e1,e2,h1,h2⟩=>by rw[e2,h _ _ _ h1,qe.fp_nil h h2];rfl
theorem qm.fz_fp:(τ:Ty)->τ.isFz=true->∀{w H x cs fp},qm P τ w H x cs fp->fp=[]
 |.int _,_,_,_,_,_,_,h=>h.2
 |.bool,_,_,_,_,_,_,h=>h.2
 |.list false _ _,_,_,_,_,_,_,h=>h.1
 |.list true _ _,hf,_,_,_,_,_,_=>by simp[Ty.isFz]at hf
 |.pair a b,hf,_,_,_,_,_,h=>by
  simp only[Ty.isFz,Bool.and_eq_true]at hf
  obtain⟨c1,c2,f1,f2,_,ef,h1,h2⟩:=h
  rw[ef,qm.fz_fp a hf.1 h1,qm.fz_fp b hf.2 h2];rfl
 |.str t,hf,_,_,_,_,_,h=>qm.fz_fp t (by simpa[Ty.isFz]using hf) h
 |.ptr _,_,_,_,_,_,_,h=>h.1
 |.op _,hf,_,_,_,_,_,_=>by simp[Ty.isFz]at hf
 |.arr _ e,hf,_,_,_,_,_,h=>qe.fp_nil (λ_ _ _ hh=>qm.fz_fp e (by simpa[Ty.isFz]using hf) hh) h.2
 |.fn _ _,_,_,_,_,_,_,h=>h.1
 |.ext own _ _ _,hf,_,_,_,_,_,h=>by
  cases own with
  |true=>simp[Ty.isFz]at hf
  |false=>exact qS.fz_fp h
 |.fn2 _ _ _,_,_,_,_,_,_,h=>h.1
theorem qm.closed:(τ:Ty)->τ.isClosed=true->∀{w H H' x cs fp},qm P τ w H x cs fp->qm P τ w H' x cs fp
 |.int _,_,_,_,_,_,_,_,h=>h
 |.bool,_,_,_,_,_,_,_,h=>h
 |.list false _ _,hf,_,_,_,_,_,_,_=>by simp[Ty.isClosed]at hf
 |.list true _ e,hf,_,_,_,_,_,_,h=>by
  obtain⟨hdr,xs,fp',e1,e2,ho,hch⟩:=h
  exact⟨hdr,xs,fp',e1,e2,ho,qe.mono (λ_ _ _ hh=>qm.closed e (by simpa[Ty.isClosed]using hf) hh) hch⟩
 |.pair a b,hf,_,_,_,_,_,_,h=>by
  simp only[Ty.isClosed,Bool.and_eq_true]at hf
  obtain⟨c1,c2,f1,f2,e,ef,h1,h2⟩:=h
  exact⟨c1,c2,f1,f2,e,ef,qm.closed a hf.1 h1,qm.closed b hf.2 h2⟩
 |.str t,hf,_,_,_,_,_,_,h=>qm.closed t (by simpa[Ty.isClosed]using hf) h
 |.ptr _,hf,_,_,_,_,_,_,_=>by simp[Ty.isClosed]at hf
 |.op t,hf,_,_,_,x,_,_,h=>by
  cases x with
  |none=>exact h
  |some y=>
   obtain⟨b,blk,tt,fp',e1,e2,hb,hr⟩:=h
   exact⟨b,blk,tt,fp',e1,e2,hb,qm.closed t (by simpa[Ty.isClosed]using hf) hr⟩
 |.arr _ e,hf,_,_,_,_,_,_,h=>⟨h.1,qe.mono (λ_ _ _ hh=>qm.closed e (by simpa[Ty.isClosed]using hf) hh) h.2⟩
 |.fn _ _,hf,_,_,_,_,_,_,_=>by simp[Ty.isClosed]at hf
 |.ext own n _ _,hf,_,_,_,_,_,_,h=>by
  simp only[Ty.isClosed,Bool.and_eq_true,Bool.not_eq_true']at hf
  obtain⟨h1,h2⟩:=hf
  subst h1
  exact qS.closed h2 h
 |.fn2 _ _ _,hf,_,_,_,_,_,_,_=>by simp[Ty.isClosed]at hf
theorem Ty.flat_closed:(τ:Ty)->τ.isFlat=true->τ.isClosed=true
 |.int _,_=>rfl
 |.bool,_=>rfl
 |.list _ _ _,h=>by simp[Ty.isFlat]at h
 |.pair a b,h=>by
  simp only[Ty.isFlat,Bool.and_eq_true]at h
  simp[Ty.isClosed,Ty.flat_closed a h.1,Ty.flat_closed b h.2]
 |.str t,h=>Ty.flat_closed t (by simpa[Ty.isFlat]using h)
 |.ptr _,h=>by simp[Ty.isFlat]at h
 |.op _,h=>by simp[Ty.isFlat]at h
 |.arr _ e,h=>Ty.flat_closed e (by simpa[Ty.isFlat]using h)
 |.fn _ _,h=>by simp[Ty.isFlat]at h
 |.ext _ _ _ _,h=>by simp[Ty.isFlat]at h
 |.fn2 _ _ _,h=>by simp[Ty.isFlat]at h
theorem Ty.flat_fz:(τ:Ty)->τ.isFlat=true->τ.isFz=true
 |.int _,_=>rfl
 |.bool,_=>rfl
 |.list _ _ _,h=>by simp[Ty.isFlat]at h
 |.pair a b,h=>by
  simp only[Ty.isFlat,Bool.and_eq_true]at h
  simp[Ty.isFz,Ty.flat_fz a h.1,Ty.flat_fz b h.2]
 |.str t,h=>Ty.flat_fz t (by simpa[Ty.isFlat]using h)
 |.ptr _,h=>by simp[Ty.isFlat]at h
 |.op _,h=>by simp[Ty.isFlat]at h
 |.arr _ e,h=>Ty.flat_fz e (by simpa[Ty.isFlat]using h)
 |.fn _ _,h=>by simp[Ty.isFlat]at h
 |.ext _ _ _ _,h=>by simp[Ty.isFlat]at h
 |.fn2 _ _ _,h=>by simp[Ty.isFlat]at h
theorem qm.zero:(τ:Ty)->τ.noFn=true->∀{w H},qm P τ w H τ.zero τ.zeroCells []
 |.int _,_,_,_=>⟨rfl,rfl⟩
 |.bool,_,_,_=>⟨rfl,rfl⟩
 |.list false _ _,_,_,_=>⟨rfl,none,0,rfl,Nat.le_refl _,.inl rfl⟩
 |.list true tid e,_,w,_=>⟨.slice none 0 0,[],[],rfl,rfl,World.ownsRow_nil w 0 tid e.size,rfl,rfl⟩
 |.pair a b,h,_,_=>by
  simp only[Ty.noFn,Bool.and_eq_true]at h
  exact⟨_,_,[],[],rfl,rfl,qm.zero a h.1,qm.zero b h.2⟩
 |.str t,h,_,_=>qm.zero t (by simpa[Ty.noFn]using h)
 |.ptr _,_,_,_=>⟨rfl,rfl⟩
 |.op _,_,_,_=>⟨rfl,rfl⟩
 |.arr n e,h,_,_=>⟨by simp[Ty.zero],qe.replicate (qm.zero e (by simpa[Ty.noFn]using h)) n⟩
 |.fn _ _,h,_,_=>by simp[Ty.noFn]at h
 |.ext _ _ _ _,h,_,_=>by simp[Ty.noFn]at h
 |.fn2 _ _ _,h,_,_=>by simp[Ty.noFn]at h
theorem Ty.zero_length:(τ:Ty)->τ.zeroCells.length=τ.size
 |.int _=>rfl
 |.bool=>rfl
 |.list _ _ _=>rfl
 |.pair a b=>by simp[Ty.zeroCells,Ty.size,Ty.zero_length a,Ty.zero_length b]
 |.str t=>Ty.zero_length t
 |.ptr _=>rfl
 |.op _=>rfl
 |.arr n e=>by simp[Ty.zeroCells,Ty.size,Ty.zero_length e]
 |.fn _ _=>rfl
 |.ext _ n _ _=>match n with
  |0=>rfl
  |1=>rfl
  |2=>rfl
  |3=>rfl
  |4=>rfl
  |_+5=>rfl
 |.fn2 _ _ _=>rfl
theorem Ty.zero_one:(τ:Ty)->∀v∈τ.zeroCells,v.oneCell'=true
 |.int _=>by simp[Ty.zeroCells,Value.oneCell']
 |.bool=>by simp[Ty.zeroCells,Value.oneCell']
 |.list _ _ _=>by simp[Ty.zeroCells,Value.oneCell']
 |.pair a b=>by
  intro v hv
  simp only[Ty.zeroCells,List.mem_append]at hv
  exact hv.elim (Ty.zero_one a v) (Ty.zero_one b v)
 |.str t=>Ty.zero_one t
 |.ptr _=>by simp[Ty.zeroCells,Value.oneCell']
 |.op _=>by simp[Ty.zeroCells,Value.oneCell']
 |.arr n e=>by
  intro v hv
  simp only[Ty.zeroCells,List.mem_flatten,List.mem_replicate]at hv
  obtain⟨l,⟨_,rfl⟩,hv⟩:=hv
  exact Ty.zero_one e v hv
 |.fn _ _=>by simp[Ty.zeroCells,Value.oneCell']
 |.ext _ n _ _=>match n with
  |0=>by simp[Ty.zeroCells,Value.oneCell']
  |1=>by simp[Ty.zeroCells,Value.oneCell']
  |2=>by simp[Ty.zeroCells,Value.oneCell']
  |3=>by simp[Ty.zeroCells,Value.oneCell']
  |4=>by simp[Ty.zeroCells,Value.oneCell']
  |_+5=>by simp[Ty.zeroCells,Value.oneCell']
 |.fn2 _ _ _=>by simp[Ty.zeroCells,Value.oneCell']
end laws
end Go.Vi
namespace Go.Vi
theorem qg4{α β:Type}(h1:α=β)(h:List α=List β)(l:List α):cast h l=l.map (cast h1):=by
 subst h1
 have e:(cast rfl:α->α)=id:=rfl
 rw[e,List.map_id]
 rfl
theorem qjY{α β γ δ:Type}(h1:α=β)(h2:γ=δ)(h:(α×γ)=(β×δ))(x:α×γ):cast h x=(cast h1 x.1,cast h2 x.2):=by
 subst h1;subst h2
 rfl
theorem qlW{α β:Type}(h1:α=β)(h:Option α=Option β)(x:Option α):cast h x=x.map (cast h1):=by
 subst h1
 cases x<;>rfl
theorem Ty.size_fz:(τ:Ty)->τ.fz.size=τ.size
 |.int _=>rfl
 |.bool=>rfl
 |.list _ _ _=>rfl
 |.pair a b=>by simp[Ty.fz,Ty.size,Ty.size_fz a,Ty.size_fz b]
 |.str t=>Ty.size_fz t
 |.ptr _=>rfl
 |.op _=>rfl
 |.arr n e=>by simp[Ty.fz,Ty.size,Ty.size_fz e]
 |.fn _ _=>rfl
 |.ext _ _ _ _=>rfl
 |.fn2 _ _ _=>rfl
theorem Ty.isAgg_fz(τ:Ty):τ.fz.isAgg=τ.isAgg:=by cases τ<;>rfl
theorem Ty.isFz_fz:(τ:Ty)->τ.fz.isFz=true
 |.int _=>rfl
 |.bool=>rfl
 |.list _ _ e=>by simp[Ty.fz,Ty.isFz,Ty.isFz_fz e]
 |.pair a b=>by simp[Ty.fz,Ty.isFz,Ty.isFz_fz a,Ty.isFz_fz b]
 |.str t=>by simp[Ty.fz,Ty.isFz,Ty.isFz_fz t]
 |.ptr t=>by simp[Ty.fz,Ty.isFz,Ty.isFz_fz t]
 |.op t=>by simp[Ty.fz,Ty.isFz,Ty.isFz_fz t]
 |.arr _ e=>by simp[Ty.fz,Ty.isFz,Ty.isFz_fz e]
 |.fn a r=>by simp[Ty.fz,Ty.isFz,Ty.isFz_fz a,Ty.isFz_fz r]
 |.ext _ _ _ _=>rfl
 |.fn2 a b r=>by simp[Ty.fz,Ty.isFz,Ty.isFz_fz a,Ty.isFz_fz b,Ty.isFz_fz r]
theorem Ty.fz_of_isFz:(τ:Ty)->τ.isFz=true->τ.fz=τ
 |.int _,_=>rfl
 |.bool,_=>rfl
 |.list o _ e,h=>by
  simp only[Ty.isFz,Bool.and_eq_true,Bool.not_eq_true']at h
  simp[Ty.fz,h.1,Ty.fz_of_isFz e h.2]
 |.pair a b,h=>by
  simp only[Ty.isFz,Bool.and_eq_true]at h
  simp[Ty.fz,Ty.fz_of_isFz a h.1,Ty.fz_of_isFz b h.2]
 |.str t,h=>by simp[Ty.fz,Ty.fz_of_isFz t (by simpa[Ty.isFz]using h)]
 |.ptr t,h=>by simp[Ty.fz,Ty.fz_of_isFz t (by simpa[Ty.isFz]using h)]
 |.op _,h=>by simp[Ty.isFz]at h
 |.arr _ e,h=>by simp[Ty.fz,Ty.fz_of_isFz e (by simpa[Ty.isFz]using h)]
 |.fn a r,h=>by
  simp only[Ty.isFz,Bool.and_eq_true]at h
  simp[Ty.fz,Ty.fz_of_isFz a h.1,Ty.fz_of_isFz r h.2]
 |.ext o _ _ _,h=>by
  simp only[Ty.isFz,Bool.not_eq_true']at h
  simp[Ty.fz,h]
 |.fn2 a b r,h=>by
  simp only[Ty.isFz,Bool.and_eq_true]at h
  simp[Ty.fz,Ty.fz_of_isFz a h.1.1,Ty.fz_of_isFz b h.1.2,Ty.fz_of_isFz r h.2]
theorem qe.map_cast{α β:Type}{R:α->List Value->List Nat->Prop}{S:β->List Value->List Nat->Prop}(h1:α=β){Q:Nat->Prop}
  (h:∀x c f,(∀b∈f,Q b)->R x c f->S (cast h1 x) c []):∀{l:List α} {xs fp},(∀b∈fp,Q b)->qe R l xs fp->qe S (l.map (cast h1)) xs []
 |[],_,_,_,⟨e,_⟩=>⟨e,rfl⟩
 |_::_,_,_,hq,⟨c,xs',f,fp',e1,e2,h2,h3⟩=>
  ⟨c,xs',[],[],e1,rfl,h _ _ _ (λb hb=>hq b (by rw[e2];simp[hb])) h2,qe.map_cast h1 h (λb hb=>hq b (by rw[e2];simp[hb])) h3⟩
theorem qdR{c:Array Value}{n:Nat}:seg c 0 n=c.toList.take n:=by simp[seg]
theorem qm.freeze{P:Program}:(τ:Ty)->τ.noFn=true->∀{w:World} (w':World) {H H':FH} {x cs fp},H.le H'->
  (∀b∈fp,∀c:FB,c.At w b->H' b=some c)->qm P τ w H x cs fp->∀h:τ.den=τ.fz.den,qm P τ.fz w' H' (cast h x) cs []
 |.int _,_,_,_,_,_,_,_,_,_,_,h,_=>⟨h.1,rfl⟩
 |.bool,_,_,_,_,_,_,_,_,_,_,h,_=>⟨h.1,rfl⟩
 |.list false tid e,hn,w,w',H,H',l,cs,fp,hH,hfp,h,hc=>by
  obtain⟨e0,a,cap,e1,hcap,h2⟩:=h
  have h1:e.den=e.fz.den:=(Ty.den_fz e).symm
  suffices hs:∀l':List e.fz.den,l'=List.map (cast h1) l->qm P (.list false tid e.fz) w' H' l' cs []from hs _ (qg4 h1 hc l)
  rintro _ rfl
  refine⟨rfl,a,cap,?_,?_,?_⟩
  ·rw[e1,List.length_map]
  ·rw[List.length_map];exact hcap
  ·refine h2.imp (λhh=>by rw[hh];rfl) ?_
   rintro⟨b,o,blk,ea,hb,hch⟩
   refine⟨b,o,blk,ea,hH _ _ hb,?_⟩
   rw[List.length_map,Ty.size_fz]
   exact qe.map_cast h1 (Q:=λ_=>False) (λx c f hf hr=>qm.freeze e (by simpa[Ty.noFn]using hn) w' hH (λb hb=>(hf b hb).elim) hr h1) (by simp) hch
 |.list true tid e,hn,w,w',H,H',l,cs,fp,hH,hfp,h,hc=>by
  obtain⟨hdr,xs,fp',e1,e2,ho,hch⟩:=h
  have h1:e.den=e.fz.den:=(Ty.den_fz e).symm
  suffices hs:∀l':List e.fz.den,l'=List.map (cast h1) l->qm P (.list false tid e.fz) w' H' l' cs []from hs _ (qg4 h1 hc l)
  rintro _ rfl
  rcases ho.2 with⟨rfl,h0⟩|⟨g,cap,cur,rfl,_,hg,hcap,_,hsz,htake⟩
  ·refine⟨rfl,none,0,?_,?_,.inl ?_⟩
   ·rw[e1,List.length_map,h0]
   ·rw[List.length_map,h0];exact Nat.le_refl _
   ·rw[List.length_eq_zero_iff.1 h0];rfl
  ·refine⟨rfl,some ⟨g,0,none⟩,cap,?_,?_,.inr ⟨g,0,cur,rfl,?_,?_⟩⟩
   ·rw[e1,List.length_map]
   ·rw[List.length_map];exact hcap
   ·exact hfp g (by rw[e2];simp[Value.ownBlock]) (.cells _) ⟨_,_,hg⟩
   ·rw[List.length_map,Ty.size_fz,qdR,htake]
    exact qe.map_cast h1 (Q:=λb=>∀c:FB,c.At w b->H' b=some c) (λx c f hf hr=>qm.freeze e (by simpa[Ty.noFn]using hn) w' hH hf hr h1) (λb hb=>hfp b (by rw[e2];simp[hb])) hch
 |.pair a b,hn,w,w',H,H',x,cs,fp,hH,hfp,h,hc=>by
  simp only[Ty.noFn,Bool.and_eq_true]at hn
  obtain⟨c1,c2,f1,f2,e,ef,h1,h2⟩:=h
  have ha:a.den=a.fz.den:=(Ty.den_fz a).symm
  have hb:b.den=b.fz.den:=(Ty.den_fz b).symm
  suffices hs:∀x':a.fz.den×b.fz.den,x'=(cast ha x.1,cast hb x.2)->qm P (.pair a.fz b.fz) w' H' x' cs []from hs _ (qjY ha hb hc x)
  rintro _ rfl
  exact⟨c1,c2,[],[],e,rfl,qm.freeze a hn.1 w' hH (λk hk=>hfp k (by rw[ef];simp[hk])) h1 ha,qm.freeze b hn.2 w' hH (λk hk=>hfp k (by rw[ef];simp[hk])) h2 hb⟩
 |.str t,hn,_,w',_,_,_,_,_,hH,hfp,h,hc=>qm.freeze t (by simpa[Ty.noFn]using hn) w' hH hfp h hc
 |.ptr t,hn,w,w',H,H',x,cs,fp,hH,hfp,h,hc=>by
  obtain⟨e0,h⟩:=h
  have h1:t.den=t.fz.den:=(Ty.den_fz t).symm
  suffices hs:∀x':Option t.fz.den,x'=Option.map (cast h1) x->qm P (.ptr t.fz) w' H' x' cs []from hs _ (qlW h1 hc x)
  rintro _ rfl
  refine⟨rfl,?_⟩
  cases x with
  |none=>exact h
  |some y=>
   obtain⟨b,o,blk,e1,hb,hr⟩:=h
   refine⟨b,o,blk,e1,hH _ _ hb,?_⟩
   rw[Ty.size_fz]
   exact qm.freeze t (by simpa[Ty.noFn]using hn) w' hH (by simp) hr h1
 |.op t,hn,w,w',H,H',x,cs,fp,hH,hfp,h,hc=>by
  have h1:t.den=t.fz.den:=(Ty.den_fz t).symm
  suffices hs:∀x':Option t.fz.den,x'=Option.map (cast h1) x->qm P (.ptr t.fz) w' H' x' cs []from hs _ (qlW h1 hc x)
  rintro _ rfl
  refine⟨rfl,?_⟩
  cases x with
  |none=>exact h.1
  |some y=>
   obtain⟨b,blk,tt,fp',e1,e2,hb,hr⟩:=h
   refine⟨b,0,blk,e1,hfp b (by rw[e2];simp) (.cells _) ⟨_,_,hb⟩,?_⟩
   have hseg:seg blk 0 t.fz.size=blk.toList:=by rw[qdR,Ty.size_fz];exact List.take_of_length_le (Nat.le_of_eq (qm.length t hr))
   rw[hseg]
   exact qm.freeze t (by simpa[Ty.noFn]using hn) w' hH (λk hk=>hfp k (by rw[e2];simp[hk])) hr h1
 |.arr n e,hn,w,w',H,H',l,cs,fp,hH,hfp,h,hc=>by
  have h1:e.den=e.fz.den:=(Ty.den_fz e).symm
  suffices hs:∀l':List e.fz.den,l'=List.map (cast h1) l->qm P (.arr n e.fz) w' H' l' cs []from hs _ (qg4 h1 hc l)
  rintro _ rfl
  exact⟨by rw[List.length_map];exact h.1,qe.map_cast h1 (λx c f hf hr=>qm.freeze e (by simpa[Ty.noFn]using hn) w' hH hf hr h1) hfp h.2⟩
 |.fn _ _,hn,_,_,_,_,_,_,_,_,_,_,_=>by simp[Ty.noFn]at hn
 |.ext _ _ _ _,hn,_,_,_,_,_,_,_,_,_,_,_=>by simp[Ty.noFn]at hn
 |.fn2 _ _ _,hn,_,_,_,_,_,_,_,_,_,_,_=>by simp[Ty.noFn]at hn
theorem qS.freeze{P:Program}{own:Bool}{i j:Nat}{w:World}(w':World){H H':FH}(hH:H.le H'):{n:Nat}->{x:qcM n}->{cs:List Value}->{fp:List Nat}->(∀b∈fp,∀c:FB,c.At w b->H' b=some c)->qS P own i j w H n x cs fp->qS P false i j w' H' n x cs []
 |0,x,cs,fp,hfp,h=>by
  cases x with
  |none=>exact⟨h.1,rfl⟩
  |some kv=>
   obtain⟨b,h1,h2⟩:=h
   refine⟨b,h1,rfl,?_⟩
   cases own with
   |true=>
    obtain⟨es,n,h3,h4⟩:=h2.2.fz
    exact⟨_,hfp b (by rw[h2.1];simp) (.map es n) h3,h4⟩
   |false=>obtain⟨_,c,h3,h4⟩:=h2;exact⟨c,hH _ _ h3,h4⟩
 |1,x,cs,fp,hfp,h=>⟨rfl,qS.shape h⟩
 |2,x,cs,fp,hfp,h=>⟨h.1,rfl⟩
 |3,x,cs,fp,hfp,h=>⟨rfl,qS.shape h⟩
 |4,x,cs,fp,hfp,h=>⟨rfl,qS.shape h⟩
 |n+5,x,cs,fp,hfp,h=>⟨rfl,qS.shape h⟩
theorem qm.freezeX{P:Program}:(τ:Ty)->τ.noFx=true->∀{w:World} (w':World) {H H':FH} {x cs fp},H.le H'->
  (∀b∈fp,∀c:FB,c.At w b->H' b=some c)->qm P τ w H x cs fp->∀h:τ.den=τ.fz.den,qm P τ.fz w' H' (cast h x) cs []
 |.pair a b,hn,w,w',H,H',x,cs,fp,hH,hfp,h,hc=>by
  simp only[Ty.noFx,Bool.and_eq_true]at hn
  obtain⟨c1,c2,f1,f2,e,ef,h1,h2⟩:=h
  have ha:a.den=a.fz.den:=(Ty.den_fz a).symm
  have hb:b.den=b.fz.den:=(Ty.den_fz b).symm
  suffices hs:∀x':a.fz.den×b.fz.den,x'=(cast ha x.1,cast hb x.2)->qm P (.pair a.fz b.fz) w' H' x' cs []from hs _ (qjY ha hb hc x)
  rintro _ rfl
  exact⟨c1,c2,[],[],e,rfl,qm.freezeX a hn.1 w' hH (λk hk=>hfp k (by rw[ef];simp[hk])) h1 ha,qm.freezeX b hn.2 w' hH (λk hk=>hfp k (by rw[ef];simp[hk])) h2 hb⟩
 |.str t,hn,_,w',_,_,_,_,_,hH,hfp,h,hc=>qm.freezeX t (by simpa[Ty.noFx]using hn) w' hH hfp h hc
 |.ext own n i j,_,w,w',H,H',x,cs,fp,hH,hfp,h,hc=>by
  have e:cast hc x=(x:qcM n):=rfl
  rw[e]
  exact qS.freeze (n:=n) w' hH hfp h
 |.int k,hn,_,w',_,_,_,_,_,hH,hfp,h,hc=>qm.freeze (.int k) hn w' hH hfp h hc
 |.bool,hn,_,w',_,_,_,_,_,hH,hfp,h,hc=>qm.freeze .bool hn w' hH hfp h hc
 |.list o t e,hn,_,w',_,_,_,_,_,hH,hfp,h,hc=>qm.freeze (.list o t e) hn w' hH hfp h hc
 |.ptr t,hn,_,w',_,_,_,_,_,hH,hfp,h,hc=>qm.freeze (.ptr t) hn w' hH hfp h hc
 |.op t,hn,_,w',_,_,_,_,_,hH,hfp,h,hc=>qm.freeze (.op t) hn w' hH hfp h hc
 |.arr n e,hn,_,w',_,_,_,_,_,hH,hfp,h,hc=>qm.freeze (.arr n e) hn w' hH hfp h hc
 |.fn a r,hn,_,w',_,_,_,_,_,hH,hfp,h,hc=>qm.freeze (.fn a r) hn w' hH hfp h hc
 |.fn2 a b r,hn,_,w',_,_,_,_,_,hH,hfp,h,hc=>qm.freeze (.fn2 a b r) hn w' hH hfp h hc
theorem Ty.noFn_noFx:(τ:Ty)->τ.noFn=true->τ.noFx=true
 |.pair a b,h=>by
  simp only[Ty.noFn,Bool.and_eq_true]at h
  simp[Ty.noFx,Ty.noFn_noFx a h.1,Ty.noFn_noFx b h.2]
 |.str t,h=>Ty.noFn_noFx t (by simpa[Ty.noFn]using h)
 |.ext _ _ _ _,h=>rfl
 |.int _,h=>h
 |.bool,h=>h
 |.list _ _ _,h=>h
 |.ptr _,h=>h
 |.op _,h=>h
 |.arr _ _,h=>h
 |.fn _ _,h=>h
 |.fn2 _ _ _,h=>h
theorem Ty.zeroX_noFx:(τ:Ty)->τ.zeroX=true->τ.noFx=true
 |.pair a b,h=>by
  simp only[Ty.zeroX,Bool.and_eq_true]at h
  simp[Ty.noFx,Ty.zeroX_noFx a h.1,Ty.zeroX_noFx b h.2]
 |.str t,h=>Ty.zeroX_noFx t (by simpa[Ty.zeroX]using h)
 |.ext _ _ _ _,h=>rfl
 |.int _,h=>h
 |.bool,h=>h
 |.list _ _ _,h=>h
 |.ptr _,h=>h
 |.op _,h=>h
 |.arr _ _,h=>h
 |.fn _ _,h=>h
 |.fn2 _ _ _,h=>h
theorem qS.zero{P:Program}{own:Bool}{i j:Nat}{w:World}{H:FH}:{n:Nat}->(Nat.beq n 2||Nat.beq n 3)=false->qS P own i j w H n (qcM.zero n) (Ty.ext own n i j).zeroCells []
 |0,_=>⟨rfl,rfl⟩
 |1,_=>by
  cases own with
  |true=>exact⟨rfl,rfl⟩
  |false=>exact⟨rfl,_,rfl,rfl⟩
 |2,h=>by cases h
 |3,h=>by cases h
 |4,_=>by
  cases own with
  |true=>exact⟨rfl,rfl⟩
  |false=>exact⟨rfl,_,rfl,rfl⟩
 |n+5,_=>by
  cases own with
  |true=>exact⟨.slice none 0 0,[],rfl,rfl,World.ownsRow_nil w 0 i 1⟩
  |false=>exact⟨rfl,_,rfl,rfl⟩
theorem qm.zeroX{P:Program}:(τ:Ty)->τ.zeroX=true->∀{w H},qm P τ w H τ.zero τ.zeroCells []
 |.pair a b,h,_,_=>by
  simp only[Ty.zeroX,Bool.and_eq_true]at h
  exact⟨_,_,[],[],rfl,rfl,qm.zeroX a h.1,qm.zeroX b h.2⟩
 |.str t,h,_,_=>qm.zeroX t (by simpa[Ty.zeroX]using h)
 |.ext own n i j,h,_,_=>qS.zero (n:=n) (by simpa only[Ty.zeroX,Bool.not_eq_true']using h)
 |.int k,h,_,_=>qm.zero (.int k) h
 |.bool,h,_,_=>qm.zero .bool h
 |.list o t e,h,_,_=>qm.zero (.list o t e) h
 |.ptr t,h,_,_=>qm.zero (.ptr t) h
 |.op t,h,_,_=>qm.zero (.op t) h
 |.arr n e,h,_,_=>qm.zero (.arr n e) h
 |.fn a r,h,_,_=>qm.zero (.fn a r) h
 |.fn2 a b r,h,_,_=>qm.zero (.fn2 a b r) h
def qP:(τ:Ty)->τ.den->List qq->Option (Σ σ:Ty,σ.den)
 |.pair a b,x,p=>match p with
  |[]=>some ⟨.pair a b,x⟩
  |.L::q=>qP a x.1 q
  |.R::q=>qP b x.2 q
  |_=>none
 |.str t,x,p=>match p with
  |[]=>some ⟨.str t,x⟩
  |s::q=>qP t x (s::q)
 |.list true tid e,x,p=>match p with
  |[]=>some ⟨.list true tid e,x⟩
  |.I i::q=>if 0<=i then(x[i.toNat]?).bind λy=>qP e y q else none
  |_=>none
 |.arr n e,x,p=>match p with
  |[]=>some ⟨.arr n e,x⟩
  |.I i::q=>if 0<=i then(x[i.toNat]?).bind λy=>qP e y q else none
  |_=>none
 |.op t,x,p=>match p with
  |[]=>some ⟨.op t,x⟩
  |.I _::q=>x.bind λy=>qP t y q
  |_=>none
 |t,x,p=>match p with
  |[]=>some ⟨t,x⟩
  |_=>none
def j1:(τ:Ty)->τ.den->List qq->(σ:Ty)->σ.den->Option τ.den
 |.pair a b,x,p,σ,y=>match p with
  |[]=>qA σ (.pair a b) y
  |.L::q=>(j1 a x.1 q σ y).map λz=>(z,x.2)
  |.R::q=>(j1 b x.2 q σ y).map λz=>(x.1,z)
  |_=>none
 |.str t,x,p,σ,y=>match p with
  |[]=>qA σ (.str t) y
  |s::q=>j1 t x (s::q) σ y
 |.list true tid e,x,p,σ,y=>match p with
  |[]=>qA σ (.list true tid e) y
  |.I i::q=>if 0<=i then(x[i.toNat]?).bind λz=>(j1 e z q σ y).map λz'=>x.set i.toNat z' else none
  |_=>none
 |.arr n e,x,p,σ,y=>match p with
  |[]=>qA σ (.arr n e) y
  |.I i::q=>if 0<=i then(x[i.toNat]?).bind λz=>(j1 e z q σ y).map λz'=>x.set i.toNat z' else none
  |_=>none
 |.op t,x,p,σ,y=>match p with
  |[]=>qA σ (.op t) y
  |.I _::q=>x.bind λz=>(j1 t z q σ y).map λz'=>some z'
  |_=>none
 |t,_,p,σ,y=>match p with
  |[]=>qA σ t y
  |_=>none
theorem qgk{α R:Type}(l:List α)(i:Int)(k:α->Option R):qs l i k=if 0<=i then(l[i.toNat]?).bind k else none:=by
 unfold qs
 split
 ·cases l[i.toNat]?<;>rfl
 ·rfl
theorem qi{α R:Type}(o:Option α)(k:α->Option R):qa o k=o.bind k:=by cases o<;>rfl
theorem jJ{R:Type}:(τ:Ty)->∀(x:τ.den) (p:List qq) (k:(σ:Ty)->σ.den->Option R),qa1 τ x p k=(qP τ x p).bind λy=>k y.1 y.2
 |.pair a b,x,p,k=>by
  match p with
  |[]=>rfl
  |.L::q=>exact jJ a x.1 q k
  |.R::q=>exact jJ b x.2 q k
  |.I _::_=>rfl
 |.str t,x,p,k=>by
  match p with
  |[]=>rfl
  |s::q=>exact jJ t x (s::q) k
 |.list true tid e,x,p,k=>by
  match p with
  |[]=>rfl
  |.L::_=>rfl
  |.R::_=>rfl
  |.I i::q=>
   show qs x i (λy=>qa1 e y q k)=_
   rw[qgk]
   simp only[qP]
   split
   ·cases x[i.toNat]? with
    |none=>rfl
    |some y=>exact jJ e y q k
   ·rfl
 |.arr n e,x,p,k=>by
  match p with
  |[]=>rfl
  |.L::_=>rfl
  |.R::_=>rfl
  |.I i::q=>
   show qs x i (λy=>qa1 e y q k)=_
   rw[qgk]
   simp only[qP]
   split
   ·cases x[i.toNat]? with
    |none=>rfl
    |some y=>exact jJ e y q k
   ·rfl
 |.op t,x,p,k=>by
  match p with
  |[]=>rfl
  |.L::_=>rfl
  |.R::_=>rfl
  |.I i::q=>
   show qa x (λy=>qa1 t y q k)=_
   rw[qi]
   simp only[qP]
   cases x with
   |none=>rfl
   |some y=>exact jJ t y q k
 |.int _,_,p,_=>by cases p<;>rfl
 |.bool,_,p,_=>by cases p<;>rfl
 |.list false _ _,_,p,_=>by cases p<;>rfl
 |.ptr _,_,p,_=>by cases p<;>rfl
 |.fn _ _,_,p,_=>by cases p<;>rfl
 |.ext _ _ _ _,_,p,_=>by cases p<;>rfl
 |.fn2 _ _ _,_,p,_=>by cases p<;>rfl
theorem qar{R:Type}:(τ:Ty)->∀(x:τ.den) (p:List qq) (σ:Ty) (y:σ.den) (k:τ.den->Option R),qaZ τ x p σ y k=(j1 τ x p σ y).bind k
 |.pair a b,x,p,σ,y,k=>by
  match p with
  |[]=>exact qi _ _
  |.L::q=>
   show qaZ a x.1 q σ y _=((j1 a x.1 q σ y).map _).bind k
   rw[qar a x.1 q σ y];cases j1 a x.1 q σ y<;>rfl
  |.R::q=>
   show qaZ b x.2 q σ y _=((j1 b x.2 q σ y).map _).bind k
   rw[qar b x.2 q σ y];cases j1 b x.2 q σ y<;>rfl
  |.I _::_=>rfl
 |.str t,x,p,σ,y,k=>by
  match p with
  |[]=>exact qi _ _
  |s::q=>exact qar t x (s::q) σ y k
 |.list true tid e,x,p,σ,y,k=>by
  match p with
  |[]=>exact qi _ _
  |.L::_=>rfl
  |.R::_=>rfl
  |.I i::q=>
   show qs x i (λz=>qaZ e z q σ y λz'=>k (x.set i.toNat z'))=_
   rw[qgk]
   simp only[j1]
   split
   ·cases x[i.toNat]? with
    |none=>rfl
    |some z=>
     show qaZ e z q σ y _=((j1 e z q σ y).map _).bind k
     rw[qar e z q σ y];cases j1 e z q σ y<;>rfl
   ·rfl
 |.arr n e,x,p,σ,y,k=>by
  match p with
  |[]=>exact qi _ _
  |.L::_=>rfl
  |.R::_=>rfl
  |.I i::q=>
   show qs x i (λz=>qaZ e z q σ y λz'=>k (x.set i.toNat z'))=_
   rw[qgk]
   simp only[j1]
   split
   ·cases x[i.toNat]? with
    |none=>rfl
    |some z=>
     show qaZ e z q σ y _=((j1 e z q σ y).map _).bind k
     rw[qar e z q σ y];cases j1 e z q σ y<;>rfl
   ·rfl
 |.op t,x,p,σ,y,k=>by
  match p with
  |[]=>exact qi _ _
  |.L::_=>rfl
  |.R::_=>rfl
  |.I i::q=>
   show qa x (λz=>qaZ t z q σ y λz'=>k (some z'))=_
   rw[qi]
   simp only[j1]
   cases x with
   |none=>rfl
   |some z=>
    show qaZ t z q σ y _=((j1 t z q σ y).map _).bind k
    rw[qar t z q σ y];cases j1 t z q σ y<;>rfl
 |.int _,_,p,_,_,_=>by cases p with|nil=>exact qi _ _|cons=>rfl
 |.bool,_,p,_,_,_=>by cases p with|nil=>exact qi _ _|cons=>rfl
 |.list false _ _,_,p,_,_,_=>by cases p with|nil=>exact qi _ _|cons=>rfl
 |.ptr _,_,p,_,_,_=>by cases p with|nil=>exact qi _ _|cons=>rfl
 |.fn _ _,_,p,_,_,_=>by cases p with|nil=>exact qi _ _|cons=>rfl
 |.ext _ _ _ _,_,p,_,_,_=>by cases p with|nil=>exact qi _ _|cons=>rfl
 |.fn2 _ _ _,_,p,_,_,_=>by cases p with|nil=>exact qi _ _|cons=>rfl
theorem qH(τ:Ty)(x:τ.den):qP τ x []=some ⟨τ,x⟩:=by
 cases τ with
 |list o _ _=>cases o<;>rfl
 |_=>rfl
theorem qh5(τ:Ty)(x:τ.den)(σ:Ty)(y:σ.den):j1 τ x [] σ y=qA σ τ y:=by
 cases τ with
 |list o _ _=>cases o<;>rfl
 |_=>rfl
theorem qk5(τ:Ty):qci τ []=some τ:=by
 cases τ with
 |list o _ _=>cases o<;>rfl
 |_=>rfl
theorem qf{τ σ:Ty}{x:τ.den}{y:σ.den}(h:qA τ σ x=some y):∃e:τ=σ,y=e▸x:=by
 unfold qA at h
 split at h
 ·rename_i e;subst e;exact⟨rfl,(Option.some.inj h).symm⟩
 ·cases h
theorem qoi{τ:Ty}{x y:τ.den}(h:qA τ τ x=some y):y=x:=by
 obtain⟨e,h⟩:=qf h
 exact h
theorem jD:(τ:Ty)->∀{x:τ.den} {p:List qq} {y},qP τ x p=some y->qci τ p=some y.1
 |.pair a b,x,p,y,h=>by
  match p with
  |[]=>cases h;rfl
  |.L::q=>exact jD a h
  |.R::q=>exact jD b h
  |.I _::_=>cases h
 |.str t,x,p,y,h=>by
  match p with
  |[]=>cases h;rfl
  |s::q=>exact jD t h
 |.list true tid e,x,p,y,h=>by
  match p with
  |[]=>cases h;rfl
  |.L::_=>cases h
  |.R::_=>cases h
  |.I i::q=>
   simp only[qP]at h
   split at h
   ·cases hx:x[i.toNat]? with
    |none=>rw[hx]at h;cases h
    |some z=>rw[hx]at h;exact jD e h
   ·cases h
 |.arr n e,x,p,y,h=>by
  match p with
  |[]=>cases h;rfl
  |.L::_=>cases h
  |.R::_=>cases h
  |.I i::q=>
   simp only[qP]at h
   split at h
   ·cases hx:x[i.toNat]? with
    |none=>rw[hx]at h;cases h
    |some z=>rw[hx]at h;exact jD e h
   ·cases h
 |.op t,x,p,y,h=>by
  match p with
  |[]=>cases h;rfl
  |.L::_=>cases h
  |.R::_=>cases h
  |.I i::q=>
   simp only[qP]at h
   cases x with
   |none=>cases h
   |some z=>exact jD t h
 |.int _,_,p,_,h=>by cases p<;>cases h;rfl
 |.bool,_,p,_,h=>by cases p<;>cases h;rfl
 |.list false _ _,_,p,_,h=>by cases p<;>cases h;rfl
 |.ptr _,_,p,_,h=>by cases p<;>cases h;rfl
 |.fn _ _,_,p,_,h=>by cases p<;>cases h;rfl
 |.ext _ _ _ _,_,p,_,h=>by cases p<;>cases h;rfl
 |.fn2 _ _ _,_,p,_,h=>by cases p<;>cases h;rfl
theorem qd0:(τ:Ty)->∀{x:τ.den} {p:List qq} {y},qhB τ x p=some y->qP τ x p=some y
 |.pair a b,x,p,y,h=>by
  match p with
  |[]=>exact h
  |.L::q=>exact qd0 a h
  |.R::q=>exact qd0 b h
  |.I _::_=>cases h
 |.str t,x,p,y,h=>by
  match p with
  |[]=>exact h
  |s::q=>exact qd0 t h
 |.list true tid e,x,p,y,h=>by cases p<;>first|exact h|cases h
 |.arr n e,x,p,y,h=>by cases p<;>first|exact h|cases h
 |.op t,x,p,y,h=>by cases p<;>first|exact h|cases h
 |.int _,_,p,_,h=>by cases p<;>first|exact h|cases h
 |.bool,_,p,_,h=>by cases p<;>first|exact h|cases h
 |.list false _ _,_,p,_,h=>by cases p<;>first|exact h|cases h
 |.ptr _,_,p,_,h=>by cases p<;>first|exact h|cases h
 |.fn _ _,_,p,_,h=>by cases p<;>first|exact h|cases h
 |.ext _ _ _ _,_,p,_,h=>by cases p<;>first|exact h|cases h
 |.fn2 _ _ _,_,p,_,h=>by cases p<;>first|exact h|cases h
end Go.Vi
namespace Go.Vi
def jO(w:World):Ty->Nat->Nat->List qq->Nat->Nat->Prop
 |.pair x y,b,o,p,b',o'=>match p with
  |[]=>b'=b/\o'=o
  |.L::q=>jO w x b o q b' o'
  |.R::q=>jO w y b (o+x.size) q b' o'
  |_=>False
 |.str t,b,o,p,b',o'=>match p with
  |[]=>b'=b/\o'=o
  |s::q=>jO w t b o (s::q) b' o'
 |.list true _ e,b,o,p,b',o'=>match p with
  |[]=>b'=b/\o'=o
  |.I i::q=>∃g n cap,w.cell? ⟨b,o,none⟩=some (.slice (some ⟨g,0,none⟩) n cap)/\jO w e g (i.toNat*e.size) q b' o'
  |_=>False
 |.arr _ e,b,o,p,b',o'=>match p with
  |[]=>b'=b/\o'=o
  |.I i::q=>jO w e b (o+i.toNat*e.size) q b' o'
  |_=>False
 |.op t,b,o,p,b',o'=>match p with
  |[]=>b'=b/\o'=o
  |.I _::q=>∃g,w.cell? ⟨b,o,none⟩=some (.pointer (some ⟨g,0,none⟩))/\jO w t g 0 q b' o'
  |_=>False
 |_,b,o,p,b',o'=>p=[]/\b'=b/\o'=o
theorem j6(w:World)(τ:Ty)(b o:Nat):jO w τ b o [] b o:=by
 cases τ with
 |list o _ _=>cases o<;>first|exact⟨rfl,rfl⟩|exact⟨rfl,rfl,rfl⟩
 |_=>first|exact⟨rfl,rfl⟩|exact⟨rfl,rfl,rfl⟩
theorem qy{w:World}{b:Nat}{blk:Array Value}{t:TypeId}{f:Nat×Nat}(h:w.heap[b]? = some (.cells blk t f))(o:Nat):w.cell? ⟨b,o,none⟩=blk[o]?:=by
 simp[World.cell?,h]
theorem jO.static:(τ:Ty)->∀{w w':World} {b o p b' o'},p.any qq.isI=false->jO w τ b o p b' o'->jO w' τ b o p b' o'
 |.pair x y,_,_,_,_,p,_,_,hp,h=>by
  match p with
  |[]=>exact h
  |.L::q=>exact jO.static x (by simpa[qq.isI]using hp) h
  |.R::q=>exact jO.static y (by simpa[qq.isI]using hp) h
  |.I _::_=>exact h.elim
 |.str t,_,_,_,_,p,_,_,hp,h=>by
  match p with
  |[]=>exact h
  |s::q=>exact jO.static t hp h
 |.list true _ e,_,_,_,_,p,_,_,hp,h=>by
  match p with
  |[]=>exact h
  |.L::_=>exact h.elim
  |.R::_=>exact h.elim
  |.I _::_=>simp[qq.isI]at hp
 |.arr _ e,_,_,_,_,p,_,_,hp,h=>by
  match p with
  |[]=>exact h
  |.L::_=>exact h.elim
  |.R::_=>exact h.elim
  |.I _::_=>simp[qq.isI]at hp
 |.op t,_,_,_,_,p,_,_,hp,h=>by
  match p with
  |[]=>exact h
  |.L::_=>exact h.elim
  |.R::_=>exact h.elim
  |.I _::_=>simp[qq.isI]at hp
 |.int _,_,_,_,_,_,_,_,_,h=>h
 |.bool,_,_,_,_,_,_,_,_,h=>h
 |.list false _ _,_,_,_,_,_,_,_,_,h=>h
 |.ptr _,_,_,_,_,_,_,_,_,h=>h
 |.fn _ _,_,_,_,_,_,_,_,_,h=>h
 |.fn2 _ _ _,_,_,_,_,_,_,_,_,h=>h
 |.ext _ _ _ _,_,_,_,_,_,_,_,_,h=>h
theorem jO.root:(τ:Ty)->∀{w:World} {b o p b' o'},p.any qq.isI=false->jO w τ b o p b' o'->b'=b
 |.pair x y,_,_,_,p,_,_,hp,h=>by
  match p with
  |[]=>exact h.1
  |.L::q=>exact jO.root x (by simpa[qq.isI]using hp) h
  |.R::q=>exact jO.root y (by simpa[qq.isI]using hp) h
  |.I _::_=>exact h.elim
 |.str t,_,_,_,p,_,_,hp,h=>by
  match p with
  |[]=>exact h.1
  |s::q=>exact jO.root t hp h
 |.list true _ e,_,_,_,p,_,_,hp,h=>by
  match p with
  |[]=>exact h.1
  |.L::_=>exact h.elim
  |.R::_=>exact h.elim
  |.I _::_=>simp[qq.isI]at hp
 |.arr _ e,_,_,_,p,_,_,hp,h=>by
  match p with
  |[]=>exact h.1
  |.L::_=>exact h.elim
  |.R::_=>exact h.elim
  |.I _::_=>simp[qq.isI]at hp
 |.op t,_,_,_,p,_,_,hp,h=>by
  match p with
  |[]=>exact h.1
  |.L::_=>exact h.elim
  |.R::_=>exact h.elim
  |.I _::_=>simp[qq.isI]at hp
 |.int _,_,_,_,_,_,_,_,h=>h.2.1
 |.bool,_,_,_,_,_,_,_,h=>h.2.1
 |.list false _ _,_,_,_,_,_,_,_,h=>h.2.1
 |.ptr _,_,_,_,_,_,_,_,h=>h.2.1
 |.fn _ _,_,_,_,_,_,_,_,h=>h.2.1
 |.fn2 _ _ _,_,_,_,_,_,_,_,h=>h.2.1
 |.ext _ _ _ _,_,_,_,_,_,_,_,h=>h.2.1
def isHd:Value->Bool
 |.slice _ _ _=>true
 |.pointer _=>true
 |_=>false
theorem jO.keep:(τ:Ty)->∀{w w':World},(∀a o v,isHd v=true->w.cell? ⟨a,o,none⟩=some v->w'.cell? ⟨a,o,none⟩=some v)->∀{b o p b' o'},jO w τ b o p b' o'->jO w' τ b o p b' o'
 |.pair x y,_,_,hk,_,_,p,_,_,h=>by
  match p with
  |[]=>exact h
  |.L::q=>exact jO.keep x hk h
  |.R::q=>exact jO.keep y hk h
  |.I _::_=>exact h.elim
 |.str t,_,_,hk,_,_,p,_,_,h=>by
  match p with
  |[]=>exact h
  |s::q=>exact jO.keep t hk h
 |.list true _ e,_,_,hk,_,_,p,_,_,h=>by
  match p with
  |[]=>exact h
  |.L::_=>exact h.elim
  |.R::_=>exact h.elim
  |.I _::_=>
   obtain⟨g,n,cap,h1,h2⟩:=h
   exact⟨g,n,cap,hk _ _ _ rfl h1,jO.keep e hk h2⟩
 |.arr _ e,_,_,hk,_,_,p,_,_,h=>by
  match p with
  |[]=>exact h
  |.L::_=>exact h.elim
  |.R::_=>exact h.elim
  |.I _::_=>exact jO.keep e hk h
 |.op t,_,_,hk,_,_,p,_,_,h=>by
  match p with
  |[]=>exact h
  |.L::_=>exact h.elim
  |.R::_=>exact h.elim
  |.I _::_=>
   obtain⟨g,h1,h2⟩:=h
   exact⟨g,hk _ _ _ rfl h1,jO.keep t hk h2⟩
 |.int _,_,_,_,_,_,_,_,_,h=>h
 |.bool,_,_,_,_,_,_,_,_,h=>h
 |.list false _ _,_,_,_,_,_,_,_,_,h=>h
 |.ptr _,_,_,_,_,_,_,_,_,h=>h
 |.fn _ _,_,_,_,_,_,_,_,_,h=>h
 |.fn2 _ _ _,_,_,_,_,_,_,_,_,h=>h
 |.ext _ _ _ _,_,_,_,_,_,_,_,_,h=>h
theorem jO.det:(τ:Ty)->∀{w:World} {b o p b1 o1 b2 o2},jO w τ b o p b1 o1->jO w τ b o p b2 o2->b1=b2/\o1=o2
 |.pair x y,_,_,_,p,_,_,_,_,h,k=>by
  match p with
  |[]=>exact⟨h.1.trans k.1.symm,h.2.trans k.2.symm⟩
  |.L::q=>exact jO.det x h k
  |.R::q=>exact jO.det y h k
  |.I _::_=>exact h.elim
 |.str t,_,_,_,p,_,_,_,_,h,k=>by
  match p with
  |[]=>exact⟨h.1.trans k.1.symm,h.2.trans k.2.symm⟩
  |s::q=>exact jO.det t h k
 |.list true _ e,_,_,_,p,_,_,_,_,h,k=>by
  match p with
  |[]=>exact⟨h.1.trans k.1.symm,h.2.trans k.2.symm⟩
  |.L::_=>exact h.elim
  |.R::_=>exact h.elim
  |.I _::_=>
   obtain⟨g,n,cap,h1,h2⟩:=h
   obtain⟨g',n',cap',k1,k2⟩:=k
   rw[h1]at k1
   cases k1
   exact jO.det e h2 k2
 |.arr _ e,_,_,_,p,_,_,_,_,h,k=>by
  match p with
  |[]=>exact⟨h.1.trans k.1.symm,h.2.trans k.2.symm⟩
  |.L::_=>exact h.elim
  |.R::_=>exact h.elim
  |.I _::_=>exact jO.det e h k
 |.op t,_,_,_,p,_,_,_,_,h,k=>by
  match p with
  |[]=>exact⟨h.1.trans k.1.symm,h.2.trans k.2.symm⟩
  |.L::_=>exact h.elim
  |.R::_=>exact h.elim
  |.I _::_=>
   obtain⟨g,h1,h2⟩:=h
   obtain⟨g',k1,k2⟩:=k
   rw[h1]at k1
   cases k1
   exact jO.det t h2 k2
 |.int _,_,_,_,_,_,_,_,_,h,k=>⟨h.2.1.trans k.2.1.symm,h.2.2.trans k.2.2.symm⟩
 |.bool,_,_,_,_,_,_,_,_,h,k=>⟨h.2.1.trans k.2.1.symm,h.2.2.trans k.2.2.symm⟩
 |.list false _ _,_,_,_,_,_,_,_,_,h,k=>⟨h.2.1.trans k.2.1.symm,h.2.2.trans k.2.2.symm⟩
 |.ptr _,_,_,_,_,_,_,_,_,h,k=>⟨h.2.1.trans k.2.1.symm,h.2.2.trans k.2.2.symm⟩
 |.fn _ _,_,_,_,_,_,_,_,_,h,k=>⟨h.2.1.trans k.2.1.symm,h.2.2.trans k.2.2.symm⟩
 |.fn2 _ _ _,_,_,_,_,_,_,_,_,h,k=>⟨h.2.1.trans k.2.1.symm,h.2.2.trans k.2.2.symm⟩
 |.ext _ _ _ _,_,_,_,_,_,_,_,_,h,k=>⟨h.2.1.trans k.2.1.symm,h.2.2.trans k.2.2.symm⟩
theorem jO.append:(τ:Ty)->∀{w:World} {b o p b1 o1 σ q b2 o2},qci τ p=some σ->jO w τ b o p b1 o1->jO w σ b1 o1 q b2 o2->jO w τ b o (p++q) b2 o2
 |.pair x y,_,_,_,p,_,_,_,_,_,_,ht,h,k=>by
  match p with
  |[]=>cases ht;obtain⟨rfl,rfl⟩:=h;exact k
  |.L::_=>exact jO.append x ht h k
  |.R::_=>exact jO.append y ht h k
  |.I _::_=>exact h.elim
 |.str t,_,_,_,p,_,_,_,_,_,_,ht,h,k=>by
  match p with
  |[]=>cases ht;obtain⟨rfl,rfl⟩:=h;exact k
  |s::_=>exact jO.append t ht h k
 |.list true _ e,_,_,_,p,_,_,_,_,_,_,ht,h,k=>by
  match p with
  |[]=>cases ht;obtain⟨rfl,rfl⟩:=h;exact k
  |.L::_=>exact h.elim
  |.R::_=>exact h.elim
  |.I _::_=>
   obtain⟨g,n,cap,h1,h2⟩:=h
   exact⟨g,n,cap,h1,jO.append e ht h2 k⟩
 |.arr _ e,_,_,_,p,_,_,_,_,_,_,ht,h,k=>by
  match p with
  |[]=>cases ht;obtain⟨rfl,rfl⟩:=h;exact k
  |.L::_=>exact h.elim
  |.R::_=>exact h.elim
  |.I _::_=>exact jO.append e ht h k
 |.op t,_,_,_,p,_,_,_,_,_,_,ht,h,k=>by
  match p with
  |[]=>cases ht;obtain⟨rfl,rfl⟩:=h;exact k
  |.L::_=>exact h.elim
  |.R::_=>exact h.elim
  |.I _::_=>
   obtain⟨g,h1,h2⟩:=h
   exact⟨g,h1,jO.append t ht h2 k⟩
 |.int _,_,_,_,_,_,_,_,_,_,_,ht,h,k=>by obtain⟨rfl,rfl,rfl⟩:=h;cases ht;exact k
 |.bool,_,_,_,_,_,_,_,_,_,_,ht,h,k=>by obtain⟨rfl,rfl,rfl⟩:=h;cases ht;exact k
 |.list false _ _,_,_,_,_,_,_,_,_,_,_,ht,h,k=>by obtain⟨rfl,rfl,rfl⟩:=h;cases ht;exact k
 |.ptr _,_,_,_,_,_,_,_,_,_,_,ht,h,k=>by obtain⟨rfl,rfl,rfl⟩:=h;cases ht;exact k
 |.fn _ _,_,_,_,_,_,_,_,_,_,_,ht,h,k=>by obtain⟨rfl,rfl,rfl⟩:=h;cases ht;exact k
 |.fn2 _ _ _,_,_,_,_,_,_,_,_,_,_,ht,h,k=>by obtain⟨rfl,rfl,rfl⟩:=h;cases ht;exact k
 |.ext _ _ _ _,_,_,_,_,_,_,_,_,_,_,ht,h,k=>by obtain⟨rfl,rfl,rfl⟩:=h;cases ht;exact k
theorem qe.cons{α:Type}{R:α->List Value->List Nat->Prop}{x:α}{l:List α}{c xs f fp}(h:R x c f)(k:qe R l xs fp):qe R (x::l) (c++xs) (f++fp):=
 ⟨c,xs,f,fp,rfl,rfl,h,k⟩
def Focus(P:Program)(τ:Ty)(x:τ.den)(p:List qq)(σ:Ty)(y:σ.den)(w:World)(H:FH)(fp:List Nat)
  (root:List Nat) (locP:World->Prop) (keepRoot:World->(τ.den)->List Nat->Prop) (b' o':Nat):Prop:=
 ∃blk' t' pre' c post' f1 f f2,w.heap[b']? = some (.cells blk' t' (0,0))/\blk'.toList=pre'++c++post'/\pre'.length=o'/\fp=f1++f++f2/\
  (b'∈root\/b'∈f1)/\qm P σ w H y c f/\(∀w':World,(∀k∈root++f1,w'.heap[k]? = w.heap[k]?)->locP w')/\
  ∀(w':World) (c':List Value) (f':List Nat) (σ':Ty) (y':σ'.den) (x':τ.den),qm P σ' w' H y' c' f'->j1 τ x p σ' y'=some x'->
   w'.heap[b']? = some (.cells (pre'++c'++post').toArray t' (0,0))->(∀k∈root++(f1++f2),k≠b'->w'.heap[k]? = w.heap[k]?)->keepRoot w' x' (f1++f'++f2)
def qkY(P:Program)(τ:Ty)(x:τ.den)(p:List qq)(σ:Ty)(y:σ.den)(w:World)(H:FH)(fp:List Nat)(b:Nat)(t:TypeId)(pre post:List Value)(b' o':Nat):Prop:=
 Focus P τ x p σ y w H fp [b] (λw'=>jO w' τ b pre.length p b' o') (λw' x' fp'=>∃cs',qm P τ w' H x' cs' fp'/\w'.heap[b]? = some (.cells (pre++cs'++post).toArray t (0,0))) b' o'
theorem qaW{P:Program}{τ:Ty}{x:τ.den}{w:World}{H:FH}{cs:List Value}{fp:List Nat}{b:Nat}{blk:Array Value}{t:TypeId}{pre post:List Value}
  (h:qm P τ w H x cs fp) (hb:w.heap[b]? = some (.cells blk t (0,0))) (hblk:blk.toList=pre++cs++post):
  qkY P τ x [] τ x w H fp b t pre post b pre.length:=by
 refine⟨blk,t,pre,cs,post,[],fp,[],hb,hblk,rfl,by simp,.inl (by simp),h,λ_ _=>j6 _ _ _ _,?_⟩
 intro w' c' f' σ' y' x' hr hs hw _
 rw[qh5]at hs
 obtain⟨e,hx⟩:=qf hs
 subst e
 subst hx
 exact⟨c',by simpa using hr,hw⟩
def DescAt(P:Program)(τ:Ty):Prop:=∀{p:List qq} {x:τ.den} {σ:Ty} {y:σ.den} {w:World} {H:FH} {cs:List Value} {fp:List Nat} {b:Nat} {blk:Array Value} {t:TypeId} {pre post:List Value},
  qP τ x p=some ⟨σ,y⟩->qm P τ w H x cs fp->w.heap[b]? = some (.cells blk t (0,0))->blk.toList=pre++cs++post->(b::fp).Nodup->
  ∃b' o',qkY P τ x p σ y w H fp b t pre post b' o'
theorem Row.desc{P:Program}{tid:Nat}{e:Ty}(ih:DescAt P e){i:Int}{q:List qq}{x:List e.den}{σ:Ty}{y:σ.den}{w:World}{H:FH}{hdr:Value}{fp:List Nat}
  (hg:qP (.list true tid e) x (.I i::q)=some ⟨σ,y⟩) (h:qm P (.list true tid e) w H x [hdr] fp) (hnd:fp.Nodup):
  ∃b' o' g n cap,hdr = .slice (some ⟨g,0,none⟩) n cap/\
   Focus P (.list true tid e) x (.I i::q) σ y w H fp [] (λw'=>jO w' e g (i.toNat*e.size) q b' o') (λw' x' fp'=>qm P (.list true tid e) w' H x' [hdr] fp') b' o':=by
 simp only[qP]at hg
 split at hg
 case isFalse=>cases hg
 rename_i hi0
 obtain⟨z,hz,hg⟩:=Option.bind_eq_some_iff.1 hg
 obtain⟨hdr',xs,fp',he,rfl,ho,hch⟩:=h
 obtain rfl:hdr=hdr':=by simpa using he
 obtain⟨pre2,c2,post2,g1,g,g2,rfl,rfl,ht1,h2,ht2⟩:=qe.at hch hz
 have hlen:i.toNat<List.length x:=(List.getElem?_eq_some_iff.1 hz).1
 rcases ho.2 with⟨rfl,h0⟩|⟨gb,cap,cur,rfl,hgb0,hgb,hcap,hcm,hsz,htake⟩
 ·omega
 have hpl:pre2.length=i.toNat*e.size:=by
  rw[qe.length (n:=e.size) (λ_ _ _ hh=>qm.length e hh) ht1,List.length_take,Nat.min_eq_left (Nat.le_of_lt hlen)]
 have hcur:cur.toList=pre2++c2++(post2++cur.toList.drop (List.length x*e.size)):=by
  have e9:=(List.take_append_drop (List.length x*e.size) cur.toList).symm
  rw[htake]at e9
  exact e9.trans (by simp only[List.append_assoc])
 have hnd':(gb::(g1++g++g2)).Nodup:=by simpa[Value.ownBlock]using hnd
 obtain⟨b',o',blk',t',pre',c,post',f1,f,f2,e1,e2,e3,e4,e5,e6,hl,e7⟩:=ih (p:=q) (pre:=pre2) (post:=post2++cur.toList.drop (List.length x*e.size)) hg h2 hgb hcur (by
  simp only[List.nodup_cons,List.nodup_append,List.mem_append]at hnd' ⊢
  exact⟨λhh=>hnd'.1 (.inl (.inr hh)),hnd'.2.1.2.1⟩)
 rw[hpl]at hl
 refine⟨b',o',gb,List.length x,cap,rfl,blk',t',pre',c,post',gb::(g1++f1),f,f2++g2,e1,e2,e3,by rw[e4];simp[Value.ownBlock],?_,e6,λw' ha=>hl w' (λk hk=>ha k (by simp at hk ⊢;rcases hk with h|h<;>simp[h])),?_⟩
 ·rcases e5 with h|h
  ·simp only[List.mem_singleton]at h;exact .inr (by simp[h])
  ·exact .inr (by simp[h])
 intro w' c' f' σ' y' x' hr hs hw hk
 simp only[j1,if_pos hi0]at hs
 obtain⟨z',hz',hs⟩:=Option.bind_eq_some_iff.1 hs
 rw[hz]at hz'
 cases hz'
 obtain⟨z2,hz2,rfl⟩:=Option.map_eq_some_iff.1 hs
 obtain⟨cs',hr',hw'⟩:=e7 w' c' f' σ' y' z2 hr hz2 hw (λk hk'=>hk k (by simp at hk' ⊢;rcases hk' with h|h|h<;>simp[h]))
 have hcl:cs'.length=c2.length:=(qm.length e hr').trans (qm.length e h2).symm
 have hsl:List.length (List.set x i.toNat z2)=List.length x:=List.length_set
 refine⟨.slice (some ⟨gb,0,none⟩) (List.length x) cap,pre2++cs'++post2,g1++(f1++f'++f2)++g2,rfl,by simp[Value.ownBlock],⟨?_,.inr ⟨gb,cap,_,by rw[hsl],Nat.zero_le _,hw',?_,hcm,?_,?_⟩⟩,?_⟩
 ·have:=ho.1
  rw[hsl]
  simp only[List.length_append]at this ⊢
  omega
 ·rw[hsl];exact hcap
 ·have q0:=congrArg List.length hcur
  rw[Array.length_toList]at q0
  rw[<-hsz,q0,List.size_toArray]
  simp only[List.length_append,hcl]
 ·have e8:(pre2++cs'++post2).length=List.length x*e.size:=by
   have:=ho.1
   simp only[List.length_append]at this ⊢
   omega
  rw[hsl]
  show List.take _ (pre2++cs'++(post2++_))=_
  rw[<-List.append_assoc (pre2++cs'),<-e8]
  exact List.take_left
 ·have hset:x.set i.toNat z2=x.take i.toNat++z2::x.drop (i.toNat+1):=List.set_eq_take_append_cons_drop.trans (if_pos hlen)
  rw[hset]
  have hm:∀k∈g1++g2,w'.heap[k]? = w.heap[k]?:=by
   intro k hk'
   refine hk k (by simp at hk' ⊢;rcases hk' with h|h<;>simp[h]) ?_
   rintro rfl
   rcases e5 with h|h
   ·simp only[List.mem_singleton]at h
    subst h
    simp only[List.nodup_cons,List.mem_append]at hnd' hk'
    exact hnd'.1 (hk'.elim (λh=>.inl (.inl h)) .inr)
   ·rw[e4]at hnd'
    simp only[List.nodup_cons,List.nodup_append,List.mem_append]at hnd' hk'
    rcases hk' with hk'|hk'
    ·exact hnd'.2.1.2.2 k hk' k (.inl (.inl h)) rfl
    ·exact hnd'.2.2.2 k (.inr (.inl (.inl h))) k hk' rfl
  have q1:qe (qm P e w' H) (x.take i.toNat) pre2 g1:=qe.mono_fp (Q:=λk=>w'.heap[k]? = w.heap[k]?) (λ_ _ _ hf hh=>qm.mono e (FH.le_refl _) hf hh) (λk hk'=>hm k (by simp[hk'])) ht1
  have q2:qe (qm P e w' H) (x.drop (i.toNat+1)) post2 g2:=qe.mono_fp (Q:=λk=>w'.heap[k]? = w.heap[k]?) (λ_ _ _ hf hh=>qm.mono e (FH.le_refl _) hf hh) (λk hk'=>hm k (by simp[hk'])) ht2
  have:=qe.append q1 (qe.cons hr' q2)
  simpa using this
theorem qm.desc{P:Program}:(τ:Ty)->∀{p:List qq} {x:τ.den} {σ:Ty} {y:σ.den} {w:World} {H:FH} {cs:List Value} {fp:List Nat} {b:Nat} {blk:Array Value} {t:TypeId} {pre post:List Value},
  qP τ x p=some ⟨σ,y⟩->qm P τ w H x cs fp->w.heap[b]? = some (.cells blk t (0,0))->blk.toList=pre++cs++post->(b::fp).Nodup->
  ∃b' o',qkY P τ x p σ y w H fp b t pre post b' o'
 |.pair u v,p,x,σ,y,w,H,cs,fp,b,blk,t,pre,post,hg,h,hb,hblk,hnd=>by
  match p with
  |[]=>cases hg;exact⟨b,pre.length,qaW h hb hblk⟩
  |.I _::_=>cases hg
  |.L::q=>
   obtain⟨c1,c2,g1,g2,rfl,rfl,h1,h2⟩:=h
   obtain⟨b',o',blk',t',pre',c,post',f1,f,f2,e1,e2,e3,e4,e5,e6,hl,e7⟩:=qm.desc u (p:=q) (pre:=pre) (post:=c2++post) hg h1 hb (by rw[hblk];simp) (by
    rw[<-List.cons_append]at hnd;exact(List.nodup_append.1 hnd).1)
   refine⟨b',o',blk',t',pre',c,post',f1,f,f2++g2,e1,e2,e3,by rw[e4];simp,e5,e6,hl,?_⟩
   intro w' c' f' σ' y' x' hr hs hw hk
   obtain⟨z,hz,rfl⟩:=Option.map_eq_some_iff.1 hs
   obtain⟨cs',hr',hw'⟩:=e7 w' c' f' σ' y' z hr hz hw (λk hk'=>hk k (by simp at hk' ⊢;rcases hk' with h|h|h<;>simp[h]))
   refine⟨cs'++c2,⟨cs',c2,f1++f'++f2,g2,rfl,by simp,hr',?_⟩,by rw[hw'];simp⟩
   refine qm.mono v (FH.le_refl _) (λk hk'=>hk k (by simp[hk']) ?_) h2
   rintro rfl
   rw[e4]at hnd
   rcases e5 with h|h
   ·simp only[List.mem_singleton]at h
    subst h
    simp only[List.nodup_cons,List.mem_append]at hnd
    exact hnd.1 (.inr hk')
   ·simp only[List.nodup_cons,List.nodup_append,List.mem_append]at hnd
    exact hnd.2.2.2 k (.inl (.inl h)) k hk' rfl
  |.R::q=>
   obtain⟨c1,c2,g1,g2,rfl,rfl,h1,h2⟩:=h
   obtain⟨b',o',blk',t',pre',c,post',f1,f,f2,e1,e2,e3,e4,e5,e6,hl,e7⟩:=qm.desc v (p:=q) (pre:=pre++c1) (post:=post) hg h2 hb (by rw[hblk];simp) (by
    simp only[List.nodup_cons,List.nodup_append,List.mem_append]at hnd ⊢
    exact⟨λhh=>hnd.1 (.inr hh),hnd.2.2.1⟩)
   refine⟨b',o',blk',t',pre',c,post',g1++f1,f,f2,e1,e2,e3,by rw[e4];simp,e5.imp id (λh=>by simp[h]),e6,λw' ha=>?_,?_⟩
   ·show jO w' v b (pre.length+u.size) q b' o'
    rw[<-qm.length u h1,<-List.length_append]
    exact hl w' (λk hk=>ha k (by simp at hk ⊢;rcases hk with h|h<;>simp[h]))
   intro w' c' f' σ' y' x' hr hs hw hk
   obtain⟨z,hz,rfl⟩:=Option.map_eq_some_iff.1 hs
   obtain⟨cs',hr',hw'⟩:=e7 w' c' f' σ' y' z hr hz hw (λk hk'=>hk k (by simp at hk' ⊢;rcases hk' with h|h|h<;>simp[h]))
   refine⟨c1++cs',⟨c1,cs',g1,f1++f'++f2,rfl,by simp,?_,hr'⟩,by rw[hw'];simp⟩
   refine qm.mono u (FH.le_refl _) (λk hk'=>hk k (by simp[hk']) ?_) h1
   rintro rfl
   rw[e4]at hnd
   rcases e5 with h|h
   ·simp only[List.mem_singleton]at h
    subst h
    simp only[List.nodup_cons,List.mem_append]at hnd
    exact hnd.1 (.inl hk')
   ·simp only[List.nodup_cons,List.nodup_append,List.mem_append]at hnd
    exact hnd.2.2.2 k hk' k (.inl (.inl h)) rfl
 |.str s,p,x,σ,y,w,H,cs,fp,b,blk,t,pre,post,hg,h,hb,hblk,hnd=>by
  match p with
  |[]=>cases hg;exact⟨b,pre.length,qaW h hb hblk⟩
  |a::q=>exact qm.desc s (p:=a::q) hg h hb hblk hnd
 |.list true tid e,p,x,σ,y,w,H,cs,fp,b,blk,t,pre,post,hg,h,hb,hblk,hnd=>by
  match p with
  |[]=>cases hg;exact⟨b,pre.length,qaW h hb hblk⟩
  |.L::_=>cases hg
  |.R::_=>cases hg
  |.I i::q=>
   obtain⟨hdr,xs,fp',rfl,rfl,ho,hch⟩:=h
   obtain⟨b',o',g,n,cap,hh,blk',t',pre',c,post',f1,f,f2,e1,e2,e3,e4,e5,e6,hl,e7⟩:=Row.desc (P:=P) (tid:=tid) (λa b c d e'=>qm.desc e a b c d e') (w:=w) (H:=H) hg ⟨hdr,xs,fp',rfl,rfl,ho,hch⟩ (List.nodup_cons.1 hnd).2
   have hnb:=(List.nodup_cons.1 hnd).1
   have hb':b'∈f1:=by simpa using e5
   have hbn:b≠b':=by
    rintro rfl
    exact hnb (by rw[e4];simp[hb'])
   refine⟨b',o',blk',t',pre',c,post',f1,f,f2,e1,e2,e3,e4,.inr hb',e6,λw' ha=>⟨g,n,cap,?_,hl w' (λk hk=>ha k (by simp at hk ⊢;simp[hk]))⟩,?_⟩
   ·rw[qy ((ha b (by simp)).trans hb),<-Array.getElem?_toList,hblk,hh];simp
   intro w' c' f' σ' y' x' hr hs hw hk
   refine⟨[hdr],e7 w' c' f' σ' y' x' hr hs hw (λk hk'=>hk k (by simp at hk' ⊢;rcases hk' with h|h<;>simp[h])),?_⟩
   rw[hk b (by simp) hbn,hb,<-hblk]
 |.arr n e,p,x,σ,y,w,H,cs,fp,b,blk,t,pre,post,hg,h,hb,hblk,hnd=>by
  match p with
  |[]=>cases hg;exact⟨b,pre.length,qaW h hb hblk⟩
  |.L::_=>cases hg
  |.R::_=>cases hg
  |.I i::q=>
   simp only[qP]at hg
   split at hg
   case isFalse=>cases hg
   rename_i hi0
   obtain⟨z,hz,hg⟩:=Option.bind_eq_some_iff.1 hg
   obtain⟨hln,hch⟩:=h
   obtain⟨pre2,c2,post2,g1,g,g2,rfl,rfl,ht1,h2,ht2⟩:=qe.at hch hz
   have hlen:i.toNat<List.length x:=(List.getElem?_eq_some_iff.1 hz).1
   have hpl:pre2.length=i.toNat*e.size:=by
    rw[qe.length (n:=e.size) (λ_ _ _ hh=>qm.length e hh) ht1,List.length_take,Nat.min_eq_left (Nat.le_of_lt hlen)]
   obtain⟨b',o',blk',t',pre',c,post',f1,f,f2,e1,e2,e3,e4,e5,e6,hl,e7⟩:=qm.desc e (p:=q) (pre:=pre++pre2) (post:=post2++post) hg h2 hb (by rw[hblk];simp) (by
    simp only[List.nodup_cons,List.nodup_append,List.mem_append]at hnd ⊢
    exact⟨λhh=>hnd.1 (.inl (.inr hh)),hnd.2.1.2.1⟩)
   rw[List.length_append,hpl]at hl
   refine⟨b',o',blk',t',pre',c,post',g1++f1,f,f2++g2,e1,e2,e3,by rw[e4];simp,e5.imp id (λh=>by simp[h]),e6,λw' ha=>hl w' (λk hk=>ha k (by simp at hk ⊢;rcases hk with h|h<;>simp[h])),?_⟩
   intro w' c' f' σ' y' x' hr hs hw hk
   simp only[j1,if_pos hi0]at hs
   obtain⟨z',hz',hs⟩:=Option.bind_eq_some_iff.1 hs
   rw[hz]at hz'
   cases hz'
   obtain⟨z2,hz2,rfl⟩:=Option.map_eq_some_iff.1 hs
   obtain⟨cs',hr',hw'⟩:=e7 w' c' f' σ' y' z2 hr hz2 hw (λk hk'=>hk k (by simp at hk' ⊢;rcases hk' with h|h|h<;>simp[h]))
   refine⟨pre2++cs'++post2,⟨by rw[List.length_set];exact hln,?_⟩,by rw[hw'];simp⟩
   have hset:x.set i.toNat z2=x.take i.toNat++z2::x.drop (i.toNat+1):=List.set_eq_take_append_cons_drop.trans (if_pos hlen)
   rw[hset]
   have hm:∀k∈g1++g2,w'.heap[k]? = w.heap[k]?:=by
    intro k hk'
    refine hk k (by simp at hk' ⊢;rcases hk' with h|h<;>simp[h]) ?_
    rintro rfl
    rcases e5 with h|h
    ·simp only[List.mem_singleton]at h
     subst h
     simp only[List.nodup_cons,List.mem_append]at hnd hk'
     exact hnd.1 (hk'.elim (λh=>.inl (.inl h)) .inr)
    ·rw[e4]at hnd
     simp only[List.nodup_cons,List.nodup_append,List.mem_append]at hnd hk'
     rcases hk' with hk'|hk'
     ·exact hnd.2.1.2.2 k hk' k (.inl (.inl h)) rfl
     ·exact hnd.2.2.2 k (.inr (.inl (.inl h))) k hk' rfl
   have q1:qe (qm P e w' H) (x.take i.toNat) pre2 g1:=qe.mono_fp (Q:=λk=>w'.heap[k]? = w.heap[k]?) (λ_ _ _ hf hh=>qm.mono e (FH.le_refl _) hf hh) (λk hk'=>hm k (by simp[hk'])) ht1
   have q2:qe (qm P e w' H) (x.drop (i.toNat+1)) post2 g2:=qe.mono_fp (Q:=λk=>w'.heap[k]? = w.heap[k]?) (λ_ _ _ hf hh=>qm.mono e (FH.le_refl _) hf hh) (λk hk'=>hm k (by simp[hk'])) ht2
   have:=qe.append q1 (qe.cons hr' q2)
   simpa using this
 |.op s,p,x,σ,y,w,H,cs,fp,b,blk,t,pre,post,hg,h,hb,hblk,hnd=>by
  match p with
  |[]=>cases hg;exact⟨b,pre.length,qaW h hb hblk⟩
  |.L::_=>cases hg
  |.R::_=>cases hg
  |.I i::q=>
   simp only[qP]at hg
   obtain⟨z,rfl,hg⟩:=Option.bind_eq_some_iff.1 hg
   obtain⟨g,gblk,gt,fp',rfl,rfl,hgb,hr0⟩:=h
   have hnb:=(List.nodup_cons.1 hnd).1
   obtain⟨b',o',blk',t',pre',c,post',f1,f,f2,e1,e2,e3,e4,e5,e6,hl,e7⟩:=qm.desc s (p:=q) (pre:=[]) (post:=[]) hg hr0 hgb (by simp) (List.nodup_cons.1 hnd).2
   have hb':b'∈g::f1:=by
    rcases e5 with h|h
    ·simp only[List.mem_singleton]at h;simp[h]
    ·simp[h]
   have hbn:b≠b':=by
    rintro rfl
    refine hnb ?_
    rw[e4]
    rcases List.mem_cons.1 hb' with h|h
    ·simp[h]
    ·simp[h]
   refine⟨b',o',blk',t',pre',c,post',g::f1,f,f2,e1,e2,e3,by rw[e4];simp,.inr hb',e6,λw' ha=>⟨g,?_,hl w' (λk hk=>ha k (by simp at hk ⊢;rcases hk with h|h<;>simp[h]))⟩,?_⟩
   ·rw[qy ((ha b (by simp)).trans hb),<-Array.getElem?_toList,hblk];simp
   intro w' c' f' σ' y' x' hr hs hw hk
   simp only[j1,Option.bind_some]at hs
   obtain⟨z2,hz2,rfl⟩:=Option.map_eq_some_iff.1 hs
   obtain⟨cs',hr',hw'⟩:=e7 w' c' f' σ' y' z2 hr hz2 hw (λk hk'=>hk k (by simp at hk' ⊢;rcases hk' with h|h|h<;>simp[h]))
   refine⟨[.pointer (some ⟨g,0,none⟩)],⟨g,_,gt,f1++f'++f2,rfl,by simp,hw',by simpa using hr'⟩,?_⟩
   rw[hk b (by simp) hbn,hb,<-hblk]
 |.int _,p,_,_,_,_,_,_,_,b,_,_,pre,_,hg,h,hb,hblk,_=>by cases p<;>cases hg;exact⟨b,pre.length,qaW h hb hblk⟩
 |.bool,p,_,_,_,_,_,_,_,b,_,_,pre,_,hg,h,hb,hblk,_=>by cases p<;>cases hg;exact⟨b,pre.length,qaW h hb hblk⟩
 |.list false _ _,p,_,_,_,_,_,_,_,b,_,_,pre,_,hg,h,hb,hblk,_=>by cases p<;>cases hg;exact⟨b,pre.length,qaW h hb hblk⟩
 |.ptr _,p,_,_,_,_,_,_,_,b,_,_,pre,_,hg,h,hb,hblk,_=>by cases p<;>cases hg;exact⟨b,pre.length,qaW h hb hblk⟩
 |.fn _ _,p,_,_,_,_,_,_,_,b,_,_,pre,_,hg,h,hb,hblk,_=>by cases p<;>cases hg;exact⟨b,pre.length,qaW h hb hblk⟩
 |.fn2 _ _ _,p,_,_,_,_,_,_,_,b,_,_,pre,_,hg,h,hb,hblk,_=>by cases p<;>cases hg;exact⟨b,pre.length,qaW h hb hblk⟩
 |.ext _ _ _ _,p,_,_,_,_,_,_,_,b,_,_,pre,_,hg,h,hb,hblk,_=>by cases p<;>cases hg;exact⟨b,pre.length,qaW h hb hblk⟩
theorem qe.each{α:Type}{Q:α->List Value->List Nat->Prop}{F:Nat->Prop}(h:∀x c f,Q x c f->∀b∈f,F b):∀{l:List α} {xs fp},qe Q l xs fp->∀b∈fp,F b
 |[],_,_,⟨_,e⟩,b,hb=>by rw[e]at hb;cases hb
 |_::_,_,_,⟨c,xs',f,fp',e1,e2,h1,h2⟩,b,hb=>by
  rw[e2]at hb
  rcases List.mem_append.1 hb with hb|hb
  ·exact h _ _ _ h1 b hb
  ·exact qe.each h h2 b hb
theorem qm.cells{P:Program}:(τ:Ty)->τ.noFn=true->∀{w:World} {H:FH} {x cs fp},qm P τ w H x cs fp->∀b∈fp,∃c t f,w.heap[b]? = some (.cells c t f)
 |.int _,_,_,_,_,_,_,h=>by rw[h.2];simp
 |.bool,_,_,_,_,_,_,h=>by rw[h.2];simp
 |.list false _ _,_,_,_,_,_,_,h=>by rw[h.1];simp
 |.list true _ e,hn,_,_,_,_,_,h=>by
  obtain⟨hdr,xs,fp',rfl,rfl,ho,hch⟩:=h
  intro b hb
  rcases List.mem_append.1 hb with hb|hb
  ·rcases ho.2 with⟨rfl,_⟩|⟨g,cap,cur,rfl,_,hg,_⟩
   ·simp[Value.ownBlock]at hb
   ·simp[Value.ownBlock]at hb
    subst hb
    exact⟨_,_,_,hg⟩
  ·exact qe.each (λ_ _ _ hh=>qm.cells e (by simpa[Ty.noFn]using hn) hh) hch b hb
 |.pair a c,hn,_,_,_,_,_,h=>by
  simp only[Ty.noFn,Bool.and_eq_true]at hn
  obtain⟨c1,c2,f1,f2,_,rfl,h1,h2⟩:=h
  intro b hb
  rcases List.mem_append.1 hb with hb|hb
  ·exact qm.cells a hn.1 h1 b hb
  ·exact qm.cells c hn.2 h2 b hb
 |.str t,hn,_,_,_,_,_,h=>qm.cells t (by simpa[Ty.noFn]using hn) h
 |.ptr _,_,_,_,_,_,_,h=>by rw[h.1];simp
 |.op t,hn,_,_,x,_,_,h=>by
  cases x with
  |none=>rw[h.2];simp
  |some y=>
   obtain⟨g,blk,tt,fp',rfl,rfl,hg,hr⟩:=h
   intro b hb
   rcases List.mem_cons.1 hb with rfl|hb
   ·exact⟨_,_,_,hg⟩
   ·exact qm.cells t (by simpa[Ty.noFn]using hn) hr b hb
 |.arr _ e,hn,_,_,_,_,_,h=>qe.each (λ_ _ _ hh=>qm.cells e (by simpa[Ty.noFn]using hn) hh) h.2
 |.fn _ _,hn,_,_,_,_,_,_=>by simp[Ty.noFn]at hn
 |.fn2 _ _ _,hn,_,_,_,_,_,_=>by simp[Ty.noFn]at hn
 |.ext _ _ _ _,hn,_,_,_,_,_,_=>by simp[Ty.noFn]at hn
def qjN:Go.Obj->Bool
 |.cells _ _ _=>true
 |.map _ _=>true
 |.mapIter _ _ _ _=>true
 |_=>false
def qe0(w:World)(b:Nat):Prop:=∃o,w.heap[b]? = some o/\qjN o=true
theorem qe0.of_cells{w:World}{b:Nat}(h:∃c t f,w.heap[b]? = some (.cells c t f)):qe0 w b:=by obtain⟨c,t,f,h⟩:=h;exact⟨_,h,rfl⟩
theorem qS.dat{P:Program}{own:Bool}{i j:Nat}{w:World}{H:FH}:{n:Nat}->{x:qcM n}->{cs:List Value}->{fp:List Nat}->qS P own i j w H n x cs fp->∀b∈fp,qe0 w b
 |0,x,cs,fp,h=>by
  cases own with
  |false=>rw[qS.fz_fp (n:=0) h];simp
  |true=>
   cases x with
   |none=>rw[h.2];simp
   |some kv=>
    obtain⟨b,_,e,h2⟩:=h
    obtain⟨es,n,h3,_⟩:=h2.fz
    rw[e]
    intro k hk
    rw[List.mem_singleton.1 hk]
    exact⟨_,h3,rfl⟩
 |1,x,cs,fp,h=>by
  cases own with
  |false=>rw[h.1];simp
  |true=>
   cases x with
   |none=>rw[h.2];simp
   |some kv=>
    obtain⟨b,_,e,h2⟩:=h
    obtain⟨es,n,h3,_⟩:=h2.fz
    rw[e]
    intro k hk
    rw[List.mem_singleton.1 hk]
    exact⟨_,h3,rfl⟩
 |2,x,cs,fp,h=>by rw[h.2];simp
 |3,x,cs,fp,h=>by
  cases own with
  |false=>rw[h.1];simp
  |true=>
   obtain⟨r,_,e,b,es,n,since,seen,c0,D,left,kv,_,_,_,_,q5,_⟩:=h
   rw[e]
   intro k hk
   rw[List.mem_singleton.1 hk]
   exact⟨_,q5,rfl⟩
 |4,x,cs,fp,h=>by
  cases own with
  |false=>rw[h.1];simp
  |true=>
   cases x with
   |none=>rw[h.2];simp
   |some l=>
    obtain⟨b,tt,hdr,_,e,h3,h4⟩:=h
    rw[e]
    intro k hk
    rcases List.mem_cons.1 hk with rfl|hk
    ·exact⟨_,h3,rfl⟩
    ·rcases h4.2 with⟨rfl,_⟩|⟨g,cap,cur,rfl,_,hg,_⟩
     ·simp[Value.ownBlock]at hk
     ·simp[Value.ownBlock]at hk
      subst hk
      exact⟨_,hg,rfl⟩
 |n+5,x,cs,fp,h=>by
  cases own with
  |false=>rw[h.1];simp
  |true=>
   cases x with
   |none=>rw[h.1];simp
   |some l=>
    obtain⟨hdr,xs,_,e,h4⟩:=h
    rw[e]
    intro k hk
    rcases h4.2 with⟨rfl,_⟩|⟨g,cap,cur,rfl,_,hg,_⟩
    ·simp[Value.ownBlock]at hk
    ·simp[Value.ownBlock]at hk
     subst hk
     exact⟨_,hg,rfl⟩
theorem qm.dat{P:Program}:(τ:Ty)->∀{w:World} {H:FH} {x cs fp},qm P τ w H x cs fp->∀b∈fp,qe0 w b
 |.int _,_,_,_,_,_,h=>by rw[h.2];simp
 |.bool,_,_,_,_,_,h=>by rw[h.2];simp
 |.list false _ _,_,_,_,_,_,h=>by rw[h.1];simp
 |.list true _ e,_,_,_,_,_,h=>by
  obtain⟨hdr,xs,fp',rfl,rfl,ho,hch⟩:=h
  intro b hb
  rcases List.mem_append.1 hb with hb|hb
  ·rcases ho.2 with⟨rfl,_⟩|⟨g,cap,cur,rfl,_,hg,_⟩
   ·simp[Value.ownBlock]at hb
   ·simp[Value.ownBlock]at hb
    subst hb
    exact⟨_,hg,rfl⟩
  ·exact qe.each (λ_ _ _ hh=>qm.dat e hh) hch b hb
 |.pair a c,_,_,_,_,_,h=>by
  obtain⟨c1,c2,f1,f2,_,rfl,h1,h2⟩:=h
  intro b hb
  rcases List.mem_append.1 hb with hb|hb
  ·exact qm.dat a h1 b hb
  ·exact qm.dat c h2 b hb
 |.str t,_,_,_,_,_,h=>qm.dat t h
 |.ptr _,_,_,_,_,_,h=>by rw[h.1];simp
 |.op t,_,_,x,_,_,h=>by
  cases x with
  |none=>rw[h.2];simp
  |some y=>
   obtain⟨g,blk,tt,fp',rfl,rfl,hg,hr⟩:=h
   intro b hb
   rcases List.mem_cons.1 hb with rfl|hb
   ·exact⟨_,hg,rfl⟩
   ·exact qm.dat t hr b hb
 |.arr _ e,_,_,_,_,_,h=>qe.each (λ_ _ _ hh=>qm.dat e hh) h.2
 |.fn _ _,_,_,_,_,_,h=>by rw[h.1];simp
 |.fn2 _ _ _,_,_,_,_,_,h=>by rw[h.1];simp
 |.ext _ _ _ _,_,_,_,_,_,h=>qS.dat h
theorem qe0.lt{w:World}{b:Nat}(h:qe0 w b):b<w.heap.size:=by obtain⟨o,h,_⟩:=h;exact(Array.getElem?_eq_some_iff.1 h).1
theorem qe0.block{w w':World}{b:Nat}(h:qe0 w b)(e:w'.heap[b]? = w.heap[b]?):qe0 w' b:=by obtain⟨o,h,h1⟩:=h;exact⟨o,e.trans h,h1⟩
end Go.Vi
namespace Go.Vi
structure qB where
 b:Nat
 hdr:Value
 fp:List Nat
structure Ctx where
 w0:World
 M0:Nat->Prop
 H0:FH
 nt:Nat
 pin:Nat->Option qB
 ds:List Deferred
 gh:Nat->Option Value:=λ_=>none
def jS(w:World)(o:Obj)(φ:qB)(p:List qq)(b off:Nat):Prop:=
 match o.row with
 |false=>jO w o.τ φ.b 0 p b off
 |true=>match o.τ,p with
  |.list true _ e,.I i::q=>∃g n cap,φ.hdr = .slice (some ⟨g,0,none⟩) n cap/\jO w e g (i.toNat*e.size) q b off
  |_,_=>False
def qK(P:Program)(w:World)(H:FH)(o:Obj)(φ:qB):Prop:=
 o.τ.noFx=true/\φ.fp.Nodup/\match o.row with
 |false=>∃blk t fp',w.heap[φ.b]? = some (.cells blk t (0,0))/\qm P o.τ w H o.x blk.toList fp'/\φ.fp=φ.b::fp'
 |true=>qlg o.τ=true/\∃cs,φ.hdr=jZ o.τ cs/\qm P o.τ w H o.x cs φ.fp
theorem qK.frame{P:Program}{w w':World}{H H':FH}{o:Obj}{φ:qB}(h:qK P w H o φ)(hH:H.le H')(hw:∀b∈φ.fp,w'.heap[b]? = w.heap[b]?):qK P w' H' o φ:=by
 obtain⟨h1,h2,h3⟩:=h
 refine⟨h1,h2,?_⟩
 cases hr:o.row with
 |false=>
  rw[hr]at h3
  obtain⟨blk,t,fp',h4,h5,h6⟩:=h3
  exact⟨blk,t,fp',by rw[hw _ (by rw[h6];simp)];exact h4,qm.mono _ hH (λb hb=>hw b (by rw[h6];simp[hb])) h5,h6⟩
 |true=>
  rw[hr]at h3
  obtain⟨h3,cs,h4,h5⟩:=h3
  exact⟨h3,cs,h4,qm.mono _ hH hw h5⟩
theorem qK.row_list{P:Program}{w:World}{H:FH}{tid:Nat}{e:Ty}{x:List e.den}{φ:qB}(h:qK P w H ⟨true,.list true tid e,x⟩ φ):qm P (.list true tid e) w H x [φ.hdr] φ.fp:=by
 obtain⟨_,_,_,cs,h4,h5⟩:=h
 obtain⟨hdr,xs,fp',e1,e2,e3⟩:=h5
 subst e1
 have h4:φ.hdr=hdr:=h4
 rw[h4]
 exact⟨hdr,xs,fp',rfl,e2,e3⟩
theorem qK.of_list{P:Program}{w:World}{H:FH}{tid:Nat}{e:Ty}{x:List e.den}{φ:qB}(hn:(Ty.list true tid e).noFn=true)(hnd:φ.fp.Nodup)(h:qm P (.list true tid e) w H x [φ.hdr] φ.fp):qK P w H ⟨true,.list true tid e,x⟩ φ:=
 ⟨hn,hnd,rfl,[φ.hdr],rfl,h⟩
theorem qK.desc2{P:Program}{w:World}{H:FH}{o:Obj}{φ:qB}(h:qK P w H o φ){p:List qq}{σ:Ty}{y:σ.den}(hg:qP o.τ o.x p=some ⟨σ,y⟩)
  (hloc:∃w0 b off,jS w0 o φ p b off) (hp:(o.row&&p.isEmpty)=false):
  ∃b' o' blk' t' pre' c post' f1 f f2,w.heap[b']? = some (.cells blk' t' (0,0))/\blk'.toList=pre'++c++post'/\pre'.length=o'/\φ.fp=f1++f++f2/\
    b'∈f1/\qm P σ w H y c f/\(∀w':World,(∀k∈f1,w'.heap[k]? = w.heap[k]?)->jS w' o φ p b' o')/\
    ∀(w':World) (c':List Value) (f':List Nat) (σ':Ty) (y':σ'.den) (x':o.τ.den),qm P σ' w' H y' c' f'->j1 o.τ o.x p σ' y'=some x'->
     w'.heap[b']? = some (.cells (pre'++c'++post').toArray t' (0,0))->(∀k∈f1++f2,k≠b'->w'.heap[k]? = w.heap[k]?)->(f1++f'++f2).Nodup->
     qK P w' H ⟨o.row,o.τ,x'⟩ ⟨φ.b,φ.hdr,f1++f'++f2⟩:=by
 obtain⟨h1,h2,h3⟩:=h
 obtain⟨row,τ,x⟩:=o
 cases row with
 |false=>
  obtain⟨blk,t,fp',h4,h5,h6⟩:=h3
  obtain⟨b',o',blk',t',pre',c,post',f1,f,f2,e1,e2,e3,e4,e5,e6,hl,e7⟩:=qm.desc τ (pre:=[]) (post:=[]) hg h5 h4 (by simp) (by rw[<-h6];exact h2)
  refine⟨b',o',blk',t',pre',c,post',φ.b::f1,f,f2,e1,e2,e3,by rw[h6,e4];simp,?_,e6,λw' ha=>hl w' (λk hk=>ha k (by simpa using hk)),?_⟩
  ·rcases e5 with h|h
   ·simp at h;simp[h]
   ·simp[h]
  ·intro w' c' f' σ' y' x' hr hs hw hk hnd
   obtain⟨cs',hr',hw'⟩:=e7 w' c' f' σ' y' x' hr hs hw (λk hk'=>hk k (by simpa using hk'))
   exact⟨h1,hnd,_,t,f1++f'++f2,hw',by simpa using hr',by simp⟩
 |true=>
  obtain⟨w0,b0,off0,hloc⟩:=hloc
  unfold jS at hloc
  simp only at hloc
  split at hloc
  case h_2=>exact hloc.elim
  rename_i tid e i q
  ·have h4:qm P (.list true tid e) w H x [φ.hdr] φ.fp:=qK.row_list ⟨h1,h2,h3⟩
   obtain⟨b',o',g,n,cap,hh,blk',t',pre',c,post',f1,f,f2,e1,e2,e3,e4,e5,e6,hl,e7⟩:=Row.desc (P:=P) (tid:=tid) (λa b c d e'=>qm.desc e a b c d e') (w:=w) (H:=H) hg h4 h2
   refine⟨b',o',blk',t',pre',c,post',f1,f,f2,e1,e2,e3,e4,by simpa using e5,e6,λw' ha=>⟨g,n,cap,hh,hl w' (λk hk=>ha k (by simpa using hk))⟩,?_⟩
   intro w' c' f' σ' y' x' hr hs hw hk hnd
   exact qK.of_list h1 hnd (e7 w' c' f' σ' y' x' hr hs hw (λk hk'=>hk k (by simpa using hk')))
theorem qK.desc{P:Program}{w:World}{H:FH}{o:Obj}{φ:qB}(h:qK P w H o φ){p:List qq}{σ:Ty}{y:σ.den}(hg:qP o.τ o.x p=some ⟨σ,y⟩)
  (hloc:∃w0 b off,jS w0 o φ p b off) (hp:(o.row&&p.isEmpty)=false):
  ∃b' o',(∀w':World,(∀k∈φ.fp,w'.heap[k]? = w.heap[k]?)->jS w' o φ p b' o')/\
   ∃blk' t' pre' c post' f1 f f2,w.heap[b']? = some (.cells blk' t' (0,0))/\blk'.toList=pre'++c++post'/\pre'.length=o'/\φ.fp=f1++f++f2/\
    b'∈f1/\qm P σ w H y c f/\
    ∀(w':World) (c':List Value) (f':List Nat) (σ':Ty) (y':σ'.den) (x':o.τ.den),qm P σ' w' H y' c' f'->j1 o.τ o.x p σ' y'=some x'->
     w'.heap[b']? = some (.cells (pre'++c'++post').toArray t' (0,0))->(∀k∈f1++f2,k≠b'->w'.heap[k]? = w.heap[k]?)->(f1++f'++f2).Nodup->
     qK P w' H ⟨o.row,o.τ,x'⟩ ⟨φ.b,φ.hdr,f1++f'++f2⟩:=by
 obtain⟨b',o',blk',t',pre',c,post',f1,f,f2,e1,e2,e3,e4,e5,e6,hl,e7⟩:=h.desc2 hg hloc hp
 exact⟨b',o',λw' ha=>hl w' (λk hk=>ha k (by rw[e4];simp[hk])),blk',t',pre',c,post',f1,f,f2,e1,e2,e3,e4,e5,e6,e7⟩
def qb0(P:Program)(w:World)(H:FH)(o:Obj)(φ:qB)(p:List qq)(b:Nat):Prop:=
 match o.row&&p.isEmpty with
 |true=>b∈φ.fp
 |false=>∃y bb off blk t f,qP o.τ o.x p=some y/\jS w o φ p bb off/\w.heap[bb]? = some (.cells blk t (0,0))/\qm P y.1 w H y.2 (seg blk off y.1.size) f/\b∈f
structure qaB (C:Ctx) (w:World) (H:FH) (Φ:Nat->qB) (os:Nat->Option Obj) (b:Nat):Prop where
 fz:H b=none
 obj:∀id o,os id=some o->b∉(Φ id).fp
 may:C.M0 b\/C.w0.heap.size<=b
 lt:b<w.heap.size
def ViewAt(w:World)(Φ:Nat->qB)(os:Nat->Option Obj)(id:Nat)(p:List qq)(v:Value):Prop:=∃o y,os id=some o/\qP o.τ o.x p=some y/\match o.row&&p.isEmpty with
   |true=>v=(Φ id).hdr
   |false=>∃b off blk t,jS w o (Φ id) p b off/\w.heap[b]? = some (.cells blk t (0,0))/\v=jZ y.1 (seg blk off y.1.size)
def CutV(v0:Value)(sz:Nat)(lo:Int)(v:Value):Prop:=∃ad n cap,v0 = .slice ad n cap/\0<=lo/\lo.toNat<=n/\v = .slice (if cap=lo.toNat then ad else ad.map (·.add (lo.toNat*sz))) (n-lo.toNat) (cap-lo.toNat)
def cvBlk(i f b:Nat)(cv:List Value):Array Value:=
 match i with
 |2=>cv.toArray
 |_=>#[.func (.func f) #[] (cv++[Value.pointer (some ⟨b,0,none⟩)]).toArray]
def qh(P:Program)(C:Ctx)(w:World)(H:FH)(Φ:Nat->qB)(os:Nat->Option Obj):AV->Value->Prop
 |.dead,_=>True
 |.val τ x,v=>τ.isFz=true/\∃cs,v=jZ τ cs/\qm P τ w H x cs []
 |.ref τ x,v=>τ.isFz=true/\∃b o blk,v = .pointer (some ⟨b,o,none⟩)/\H b=some (.cells blk)/\qm P τ w H x (seg blk o τ.size) []
 |.ptr id p,v=>∃o y b off,os id=some o/\(o.row&&p.isEmpty)=false/\qP o.τ o.x p=some y/\jS w o (Φ id) p b off/\v = .pointer (some ⟨b,off,none⟩)
 |.view id p,v=>∃o y,os id=some o/\qP o.τ o.x p=some y/\match o.row&&p.isEmpty with
   |true=>v=(Φ id).hdr
   |false=>∃b off blk t,jS w o (Φ id) p b off/\w.heap[b]? = some (.cells blk t (0,0))/\v=jZ y.1 (seg blk off y.1.size)
 |.upd id p tid e l,v=>∃o,os id=some o/\e.noFn=true/\qci o.τ p=some (.list true tid e)/\
   ∃fp,fp.Nodup/\qm P (.list true tid e) w H l [v] fp/\∀b∈fp,b<w.heap.size/\(qaB C w H Φ os b\/qb0 P w H o (Φ id) p b)
 |.cut id p z lo,v=>∃v0,ViewAt w Φ os id p v0/\CutV v0 z lo v
 |.fn f first caps,v=>∃vs us,v = .func (.func f) vs us/\qh P C w H Φ os first (.tuple vs)/\qh P C w H Φ os caps (.tuple us)
 |.nil,v=>v = .tuple #[]
 |.gh n a,_=>∃u,C.gh n=some u/\qh P C w H Φ os a u
 |.cv i f n,v=>∃(b:Nat) (cv:List Value),H b=some (.cells (cvBlk i f b cv))/\(cv.length=n/1000/\∀j u,cv[j]? = some u->∃φ,C.pin (10000000+(n%1000+j))=some φ/\u = .pointer (some ⟨φ.b,0,none⟩))/\
   v=match i with
    |1=>.func (.func f) #[] (cv++[Value.pointer (some ⟨b,0,none⟩)]).toArray
    |_=>.pointer (some ⟨b,0,none⟩)
 |.cons a b,v=>∃u us,v = .tuple (u::us).toArray/\qh P C w H Φ os a u/\qh P C w H Φ os b (.tuple us.toArray)
def IsNN(v:Value):Prop:=∃a n c,v = .slice (some a) n c
def cls(id:Nat)(v:Value):Prop:=(4000000<=id->id<7000000->IsNN v)/\(7000000<=id->id<10000000->v = .slice none 0 0)
theorem qbb{id:Nat}{v:Value}(h:id<4000000):cls id v:=⟨λ_ _=>by omega,λ_ _=>by omega⟩
def sureV:Bool->Value->Prop
 |true,v=>IsNN v
 |false,v=>v = .slice none 0 0
theorem qi5{nn:Bool}{n:Nat}{v:Value}(hn:n<3000000)(h:sureV nn v):cls (qbd nn n) v:=by
 cases nn with
 |true=>exact⟨λ_ _=>h,λh1 _=>by have h1:7000000<=4000000+n:=h1;omega⟩
 |false=>exact⟨λ_ h1=>by have h1:7000000+n<7000000:=h1;omega,λ_ _=>h⟩
theorem qhY{nn:Bool}{id:Nat}{v:Value}(h:qfz id nn=true)(hc:cls id v):sureV nn v:=by
 cases nn with
 |true=>
  have h:(Nat.ble 4000000 id&&Nat.blt id 7000000)=true:=h
  rw[Bool.and_eq_true]at h
  exact hc.1 (Nat.le_of_ble_eq_true h.1) (Eq.mp Nat.blt_eq h.2)
 |false=>
  have h:(Nat.ble 7000000 id&&Nat.blt id 10000000)=true:=h
  rw[Bool.and_eq_true]at h
  exact hc.2 (Nat.le_of_ble_eq_true h.1) (Eq.mp Nat.blt_eq h.2)
theorem qgC{nn:Bool}{n:Nat}(hn:n<3000000):qbd nn n<10000000:=by
 cases nn with
 |true=>show 4000000+n<10000000;omega
 |false=>show 7000000+n<10000000;omega
theorem qgD{nn:Bool}{n:Nat}:4000000<=qbd nn n:=by
 cases nn with
 |true=>show 4000000<=4000000+n;omega
 |false=>show 4000000<=7000000+n;omega
theorem qju{nn nn':Bool}{n m:Nat}(hn:n<3000000)(hm:m<3000000)(h:n≠m):qbd nn n≠qbd nn' m:=by
 cases nn<;>cases nn'<;>(intro e;simp only[qbd,cond_true,cond_false]at e;omega)
theorem cls_high{id:Nat}{v:Value}(h:10000000<=id):cls id v:=⟨λ_ _=>by omega,λ_ _=>by omega⟩
structure qg (P:Program) (C:Ctx) (s:St) (a:Act) (w:World) (H:FH) (Φ:Nat->qB):Prop where
 defers:a.defers=C.ds
 size:a.tmps.size=C.nt
 le:C.H0.le H
 hok:HOk H w
 hnew:∀b c,H b=some c->C.H0 b=some c\/C.M0 b\/C.w0.heap.size<=b
 mod:jM C.M0 C.w0 w
 ts:∀t av,s.get t=some av->qh P C w H Φ s.obj av (a.tmps.getD t undef)
 os:∀id o,s.obj id=some o->qK P w H o (Φ id)/\∀b∈(Φ id).fp,H b=none/\(C.M0 b\/C.w0.heap.size<=b)/\b<w.heap.size
 disj:∀i j o o',i≠j->s.obj i=some o->s.obj j=some o'->∀b∈(Φ i).fp,b∉(Φ j).fp
 pins:(∀id φ,C.pin id=some φ->(Φ id).b=φ.b/\(Φ id).hdr=φ.hdr)/\∀id,cls id (Φ id).hdr
def Sim(P:Program)(C:Ctx)(s:St)(a:Act)(w:World):Prop:=∃H Φ,qg P C s a w H Φ
section
variable {P:Program} {C:Ctx}
theorem qh.transfer{w w':World}{H H':FH}{Φ Φ':Nat->qB}{os os':Nat->Option Obj}(f:AV->Bool)(hH:H.le H')
  (hptr:∀id p v,f (.ptr id p)=false->qh P C w H Φ os (.ptr id p) v->qh P C w' H' Φ' os' (.ptr id p) v)
  (hview:∀id p v,f (.view id p)=false->qh P C w H Φ os (.view id p) v->qh P C w' H' Φ' os' (.view id p) v)
  (hupd:∀id p t e l v,f (.upd id p t e l)=false->qh P C w H Φ os (.upd id p t e l) v->qh P C w' H' Φ' os' (.upd id p t e l) v):
  ∀(av:AV) (v:Value),qh P C w H Φ os av v->qh P C w' H' Φ' os' (av.killIf f) v
 |.dead,_,_=>by simp only[AV.killIf];cases f .dead<;>trivial
 |.val τ x,v,h=>by
  simp only[AV.killIf]
  cases f (.val τ x)with
  |true=>trivial
  |false=>obtain⟨h1,cs,h2,h3⟩:=h;exact⟨h1,cs,h2,qm.mono _ hH (by simp) h3⟩
 |.ref τ x,v,h=>by
  simp only[AV.killIf]
  cases f (.ref τ x)with
  |true=>trivial
  |false=>obtain⟨h1,b,o,blk,h2,h3,h4⟩:=h;exact⟨h1,b,o,blk,h2,hH _ _ h3,qm.mono _ hH (by simp) h4⟩
 |.ptr id p,v,h=>by
  simp only[AV.killIf]
  cases hf:f (.ptr id p)with
  |true=>trivial
  |false=>exact hptr id p v hf h
 |.view id p,v,h=>by
  simp only[AV.killIf]
  cases hf:f (.view id p)with
  |true=>trivial
  |false=>exact hview id p v hf h
 |.upd id p t e l,v,h=>by
  simp only[AV.killIf]
  cases hf:f (.upd id p t e l)with
  |true=>trivial
  |false=>exact hupd id p t e l v hf h
 |.cut id p z lo,v,h=>by
  simp only[AV.killIf]
  cases hf:f (.view id p)with
  |true=>trivial
  |false=>obtain⟨v0,h1,h2⟩:=h;exact⟨v0,hview id p v0 hf h1,h2⟩
 |.fn g first caps,v,h=>by
  obtain⟨vs,us,h1,h2,h3⟩:=h
  exact⟨vs,us,h1,qh.transfer f hH hptr hview hupd first _ h2,qh.transfer f hH hptr hview hupd caps _ h3⟩
 |.nil,v,h=>by simp only[AV.killIf];cases f .nil<;>first|trivial|exact h
 |.gh n a,v,h=>by
  obtain⟨u,h1,h2⟩:=h
  exact⟨u,h1,qh.transfer f hH hptr hview hupd a _ h2⟩
 |.cv i g n,v,h=>by
  simp only[AV.killIf]
  cases f (.cv i g n)with
  |true=>trivial
  |false=>
   obtain⟨b,cv,h1,h2⟩:=h
   exact⟨b,cv,hH _ _ h1,h2⟩
 |.cons a b,v,h=>by
  obtain⟨u,us,h1,h2,h3⟩:=h
  exact⟨u,us,h1,qh.transfer f hH hptr hview hupd a _ h2,qh.transfer f hH hptr hview hupd b _ h3⟩
theorem jS.det{w:World}{o:Obj}{φ:qB}{p:List qq}{b off b' off':Nat}(h:jS w o φ p b off)(k:jS w o φ p b' off'):b=b'/\off=off':=by
 obtain⟨row,τ,x⟩:=o
 cases row with
 |false=>exact jO.det _ h k
 |true=>
  cases τ with
  |list own tid e=>
   cases own with
   |false=>exact h.elim
   |true=>
    match p with
    |[]=>exact h.elim
    |.L::_=>exact h.elim
    |.R::_=>exact h.elim
    |.I i::q=>
     obtain⟨g,n,cap,e1,e2⟩:=h
     obtain⟨g',n',cap',e3,e4⟩:=k
     rw[e1]at e3
     cases e3
     exact jO.det _ e2 e4
  |_=>exact h.elim
theorem jS.keep{w w':World}(hk:∀a o v,isHd v=true->w.cell? ⟨a,o,none⟩=some v->w'.cell? ⟨a,o,none⟩=some v){o:Obj}{φ:qB}{p:List qq}{b off:Nat}(h:jS w o φ p b off):jS w' o φ p b off:=by
 obtain⟨row,τ,x⟩:=o
 cases row with
 |false=>exact jO.keep _ hk h
 |true=>
  cases τ with
  |list own tid e=>
   cases own with
   |false=>exact h.elim
   |true=>
    match p with
    |[]=>exact h.elim
    |.L::_=>exact h.elim
    |.R::_=>exact h.elim
    |.I i::q=>
     obtain⟨g,n,cap,e1,e2⟩:=h
     exact⟨g,n,cap,e1,jO.keep _ hk e2⟩
  |_=>exact h.elim
theorem qK.loc_stay{w w':World}{H:FH}{o:Obj}{φ:qB}(hok:qK P w H o φ)(hfp:∀b∈φ.fp,w'.heap[b]? = w.heap[b]?){p:List qq}{y}(hg:qP o.τ o.x p=some y)(hp:(o.row&&p.isEmpty)=false)
  {b off:Nat} (h:jS w o φ p b off):jS w' o φ p b off/\b∈φ.fp:=by
 obtain⟨b',o',hl,blk',t',pre',c,post',f1,f,f2,e1,e2,e3,e4,e5,_⟩:=hok.desc (y:=y.2) hg ⟨w,_,_,h⟩ hp
 obtain⟨rfl,rfl⟩:=jS.det h (hl w (λ_ _=>rfl))
 exact⟨hl w' hfp,by rw[e4];simp[e5]⟩
theorem qh.ptr_stay{w w':World}{H H':FH}{Φ Φ':Nat->qB}{os os':Nat->Option Obj}{id:Nat}{p:List qq}{v:Value}(hos:∀o,os id=some o->os' id=some o)(hΦ:Φ' id=Φ id)
  (hobj:∀o,os id=some o->qK P w H o (Φ id)/\∀b∈(Φ id).fp,w'.heap[b]? = w.heap[b]?)
  (h:qh P C w H Φ os (.ptr id p) v):qh P C w' H' Φ' os' (.ptr id p) v:=by
 obtain⟨o,y,b,off,h1,h2,h3,h4,h5⟩:=h
 obtain⟨hok,hfp⟩:=hobj o h1
 exact⟨o,y,b,off,hos o h1,h2,h3,by rw[hΦ];exact(hok.loc_stay hfp h3 h2 h4).1,h5⟩
theorem qh.view_stay{w w':World}{H H':FH}{Φ Φ':Nat->qB}{os os':Nat->Option Obj}{id:Nat}{p:List qq}{v:Value}(hos:∀o,os id=some o->os' id=some o)(hΦ:Φ' id=Φ id)
  (hobj:∀o,os id=some o->qK P w H o (Φ id)/\∀b∈(Φ id).fp,w'.heap[b]? = w.heap[b]?)
  (h:qh P C w H Φ os (.view id p) v):qh P C w' H' Φ' os' (.view id p) v:=by
 obtain⟨o,y,h1,h2,h3⟩:=h
 obtain⟨hok,hfp⟩:=hobj o h1
 refine⟨o,y,hos o h1,h2,?_⟩
 cases hr:o.row&&p.isEmpty with
 |true=>rw[hr]at h3;simp only at h3 ⊢;rw[hΦ];exact h3
 |false=>
  rw[hr]at h3
  obtain⟨b,off,blk,t,h4,h5,h6⟩:=h3
  obtain⟨h7,h8⟩:=hok.loc_stay hfp h2 hr h4
  exact⟨b,off,blk,t,by rw[hΦ];exact h7,by rw[hfp b h8];exact h5,h6⟩
theorem qh.upd_stay{w w':World}{H H':FH}{Φ:Nat->qB}{os:Nat->Option Obj}{id:Nat}{p:List qq}{tid:Nat}{e:Ty}{l:List e.den}{v:Value}(hH:H.le H')
  (hw:∀b,b<w.heap.size->w'.heap[b]? = w.heap[b]?) (hsz:w.heap.size<=w'.heap.size) (hfr:∀b,qaB C w H Φ os b->H' b=none)
  (h:qh P C w H Φ os (.upd id p tid e l) v):qh P C w' H' Φ os (.upd id p tid e l) v:=by
 obtain⟨o,h1,h3,h4,fp,h0,h5,h6⟩:=h
 have hcell:∀a v,w.cell? a=some v->w'.cell? a=some v:=λa v ha=>by
  rw[World.cell?_of_block (hw _ (World.block_lt_of_cell? w a ha))];exact ha
 have hd:∀b,qb0 P w H o (Φ id) p b->qb0 P w' H' o (Φ id) p b:=by
  intro b hhd
  unfold qb0 at hhd ⊢
  cases hr:o.row&&p.isEmpty with
  |true=>rw[hr]at hhd;exact hhd
  |false=>
   rw[hr]at hhd
   obtain⟨y,bb,off,blk,t,f,q1,q2,q3,q4,q5⟩:=hhd
   exact⟨y,bb,off,blk,t,f,q1,jS.keep (λa o v _ ha=>hcell ⟨a,o,none⟩ _ ha) q2,(hw _ (Array.getElem?_eq_some_iff.1 q3).1).trans q3,qm.mono _ hH (λk hk=>by
    have ey:=jD _ q1
    rw[h4]at ey
    obtain⟨_,_,_,e⟩:=qm.cells _ (by injection ey with ey;rw[<-ey];exact h3) q4 k hk
    exact hw k (Array.getElem?_eq_some_iff.1 e).1) q4,q5⟩
 refine⟨o,h1,h3,h4,fp,h0,qm.mono _ hH (λb hb=>hw b (h6 b hb).1) h5,λb hb=>?_⟩
 obtain⟨hlt,h7⟩:=h6 b hb
 refine⟨Nat.lt_of_lt_of_le hlt hsz,?_⟩
 rcases h7 with hf|q1
 ·exact .inl ⟨hfr b hf,hf.obj,hf.may,Nat.lt_of_lt_of_le hf.lt hsz⟩
 ·exact .inr (hd b q1)
theorem qh.id_kill(f:AV->Bool)(hf:∀a,f a=false):∀a:AV,a.killIf f=a
 |.dead=>by simp[AV.killIf,hf]
 |.val _ _=>by simp[AV.killIf,hf]
 |.ref _ _=>by simp[AV.killIf,hf]
 |.ptr _ _=>by simp[AV.killIf,hf]
 |.view _ _=>by simp[AV.killIf,hf]
 |.upd _ _ _ _ _=>by simp[AV.killIf,hf]
 |.cut _ _ _ _=>by simp[AV.killIf,hf]
 |.fn _ a b=>by simp[AV.killIf,qh.id_kill f hf a,qh.id_kill f hf b]
 |.nil=>by simp[AV.killIf,hf]
 |.gh _ a=>by simp[AV.killIf,qh.id_kill f hf a]
 |.cv _ _ _=>by simp[AV.killIf,hf]
 |.cons a b=>by simp[AV.killIf,qh.id_kill f hf a,qh.id_kill f hf b]
theorem qh.grow{w w':World}{H H':FH}{Φ:Nat->qB}{os:Nat->Option Obj}(hH:H.le H')
  (hos:∀id o,os id=some o->qK P w H o (Φ id)/\∀b∈(Φ id).fp,b<w.heap.size)
  (hw:∀b,b<w.heap.size->w'.heap[b]? = w.heap[b]?) (hsz:w.heap.size<=w'.heap.size) (hfr:∀b,qaB C w H Φ os b->H' b=none)
  {av:AV} {v:Value} (h:qh P C w H Φ os av v):qh P C w' H' Φ os av v:=by
 have:=qh.transfer (P:=P) (C:=C) (w:=w) (w':=w') (H:=H) (H':=H') (Φ:=Φ) (Φ':=Φ) (os:=os) (os':=os) (λ_=>false) hH
  (λid p v _ hh=>qh.ptr_stay (λ_ h=>h) rfl (λo ho=>⟨(hos id o ho).1,λb hb=>hw b ((hos id o ho).2 b hb)⟩) hh)
  (λid p v _ hh=>qh.view_stay (λ_ h=>h) rfl (λo ho=>⟨(hos id o ho).1,λb hb=>hw b ((hos id o ho).2 b hb)⟩) hh)
  (λid p t e l v _ hh=>qh.upd_stay hH hw hsz hfr hh) av v h
 rwa[qh.id_kill _ (λ_=>rfl)]at this
theorem qmM{α β:Type}(g:α->β):∀(l:List (Nat×α)) (n:Nat),lk (l.map λx=>(x.1,g x.2)) n=(lk l n).map g
 |[],_=>rfl
 |(m,a)::r,n=>by
  simp only[List.map_cons,lk]
  cases Nat.beq m n with
  |true=>rfl
  |false=>exact qmM g r n
theorem St.get_killIf(s:St)(f:AV->Bool)(t:Nat):(s.killIf f).get t=(s.get t).map (AV.killIf f):=qmM _ _ _
theorem St.obj_killIf(s:St)(f:AV->Bool):(s.killIf f).obj=s.obj:=rfl
theorem St.obj_set(s:St)(t:Nat)(a:AV):(s.set t a).obj=s.obj:=rfl
theorem St.get_setObj(s:St)(id:Nat)(o:Option Obj):(s.setObj id o).get=s.get:=rfl
theorem St.get_set(s:St)(t u:Nat)(a:AV):(s.set t a).get u=if t=u then some a else s.get u:=by
 show(bif Nat.beq t u then some a else lk s.ts u)=_
 cases h:Nat.beq t u with
 |true=>rw[if_pos (Nat.eq_of_beq_eq_true h)];rfl
 |false=>rw[if_neg (Nat.ne_of_beq_eq_false h)];rfl
theorem St.obj_setObj(s:St)(id j:Nat)(o:Option Obj):(s.setObj id o).obj j=if id=j then o else s.obj j:=by
 show(bif Nat.beq id j then some o else lk s.os j).join=_
 cases h:Nat.beq id j with
 |true=>rw[if_pos (Nat.eq_of_beq_eq_true h)];rfl
 |false=>rw[if_neg (Nat.ne_of_beq_eq_false h)];rfl
theorem qeK{a:Act}{d:Nat}{v:Value}(hd:d<a.tmps.size)(t:Nat):(a.put (some d) v).tmps.getD t undef=if d=t then v else a.tmps.getD t undef:=by
 simp only[Act.put,Array.getD_eq_getD_getElem?,Array.getElem?_setIfInBounds]
 by_cases h:d=t
 ·subst h;simp[hd]
 ·simp[h]
theorem put_size(a:Act)(d:Option Nat)(v:Value):(a.put d v).tmps.size=a.tmps.size:=by cases d<;>simp[Act.put]
theorem qg.set{s:St}{a:Act}{w:World}{H:FH}{Φ:Nat->qB}(h:qg P C s a w H Φ){d:Nat}(hd:d<C.nt){av:AV}{v:Value}(hv:qh P C w H Φ s.obj av v):
  qg P C (s.set d av) (a.put (some d) v) w H Φ where
 defers:=h.defers
 size:=by rw[put_size];exact h.size
 le:=h.le
 hok:=h.hok
 hnew:=h.hnew
 mod:=h.mod
 ts:=by
  intro t av' ht
  rw[St.get_set]at ht
  rw[qeK (by rw[h.size];exact hd)]
  split at ht
  ·rename_i e;rw[if_pos e];cases ht;exact hv
  ·rename_i e;rw[if_neg e];exact h.ts t av' ht
 os:=h.os
 disj:=h.disj
 pins:=h.pins
theorem qg.setDst{s:St}{a:Act}{w:World}{H:FH}{Φ:Nat->qB}(h:qg P C s a w H Φ){d:Option Nat}(hd:qF C.nt d=true){av:AV}{v:Value}(hv:qh P C w H Φ s.obj av v):
  qg P C (s.setDst d av) (a.put d v) w H Φ:=by
 cases d with
 |none=>exact h
 |some d=>exact h.set (Eq.mp Nat.blt_eq hd) hv
theorem qg.setAV{s:St}{a:Act}{w:World}{H:FH}{Φ:Nat->qB}{t:Nat}{av:AV}(h:qg P C s a w H Φ)(hr:qh P C w H Φ s.obj av (a.tmps.getD t undef)):qg P C (s.set t av) a w H Φ:=by
 refine⟨h.defers,h.size,h.le,h.hok,h.hnew,h.mod,?_,h.os,h.disj,h.pins⟩
 intro u av' hu
 rw[St.get_set]at hu
 split at hu
 ·rename_i e;subst e;cases hu;exact hr
 ·exact h.ts u av' hu
theorem qg.grow{s:St}{a:Act}{w w':World}{H:FH}{Φ:Nat->qB}(h:qg P C s a w H Φ)(hm:jM qV w w'):qg P C s a w' H Φ:=by
 have hw:∀b,b<w.heap.size->w'.heap[b]? = w.heap[b]?:=λb hb=>hm.block b hb (λh=>h)
 refine⟨h.defers,h.size,h.le,h.hok.mod hm (λ_ hb=>hb.elim),h.hnew,h.mod.trans (hm.mono (λ_ hb=>hb.elim)),?_,?_,h.disj,h.pins⟩
 ·intro t av ht
  exact qh.grow (FH.le_refl _) (λid o ho=>⟨(h.os id o ho).1,λb hb=>((h.os id o ho).2 b hb).2.2⟩) hw hm.size (λb hf=>hf.fz) (h.ts t av ht)
 ·intro id o ho
  obtain⟨h1,h2⟩:=h.os id o ho
  exact⟨h1.frame (FH.le_refl _) (λb hb=>hw b (h2 b hb).2.2),λb hb=>⟨(h2 b hb).1,(h2 b hb).2.1,Nat.lt_of_lt_of_le (h2 b hb).2.2 hm.size⟩⟩
theorem Sim.grow{s:St}{a:Act}{w w':World}(h:Sim P C s a w)(hm:jM qV w w'):Sim P C s a w':=by
 obtain⟨H,Φ,h⟩:=h
 exact⟨H,Φ,h.grow hm⟩
theorem qg.weaken{s s':St}{a:Act}{w:World}{H:FH}{Φ:Nat->qB}(h:qg P C s a w H Φ)(ho:∀id o,s'.obj id=some o->s.obj id=some o)
  (ht:∀t av,s'.get t=some av->qh P C w H Φ s'.obj av (a.tmps.getD t undef)):qg P C s' a w H Φ:=
 ⟨h.defers,h.size,h.le,h.hok,h.hnew,h.mod,ht,λid o hh=>h.os id o (ho id o hh),λi j o o' hij h1 h2=>h.disj i j o o' hij (ho _ _ h1) (ho _ _ h2),h.pins⟩
end
end Go.Vi
namespace Go.Vi
section
variable {P:Program} {C:Ctx}
theorem qaw:(τ:Ty)->τ.noFn=true->∀{x:τ.den} {p:List qq} {y},qP τ x p=some y->y.1.noFn=true
 |.pair a b,hn,x,p,y,h=>by
  have hn':=hn
  simp only[Ty.noFn,Bool.and_eq_true]at hn'
  match p with
  |[]=>cases h;exact hn
  |.L::q=>exact qaw a hn'.1 h
  |.R::q=>exact qaw b hn'.2 h
  |.I _::_=>cases h
 |.str t,hn,x,p,y,h=>by
  match p with
  |[]=>cases h;exact hn
  |s::q=>exact qaw t hn h
 |.list true tid e,hn,x,p,y,h=>by
  match p with
  |[]=>cases h;exact hn
  |.L::_=>cases h
  |.R::_=>cases h
  |.I i::q=>
   simp only[qP]at h
   split at h
   ·obtain⟨z,_,h⟩:=Option.bind_eq_some_iff.1 h
    exact qaw e hn h
   ·cases h
 |.arr n e,hn,x,p,y,h=>by
  match p with
  |[]=>cases h;exact hn
  |.L::_=>cases h
  |.R::_=>cases h
  |.I i::q=>
   simp only[qP]at h
   split at h
   ·obtain⟨z,_,h⟩:=Option.bind_eq_some_iff.1 h
    exact qaw e hn h
   ·cases h
 |.op t,hn,x,p,y,h=>by
  match p with
  |[]=>cases h;exact hn
  |.L::_=>cases h
  |.R::_=>cases h
  |.I i::q=>
   simp only[qP]at h
   obtain⟨z,_,h⟩:=Option.bind_eq_some_iff.1 h
   exact qaw t hn h
 |.int _,hn,_,p,_,h=>by cases p<;>cases h;exact hn
 |.bool,hn,_,p,_,h=>by cases p<;>cases h;exact hn
 |.list false _ _,hn,_,p,_,h=>by cases p<;>cases h;exact hn
 |.ptr _,hn,_,p,_,h=>by cases p<;>cases h;exact hn
 |.fn _ _,hn,_,p,_,h=>by cases p<;>cases h;exact hn
 |.fn2 _ _ _,hn,_,p,_,h=>by cases p<;>cases h;exact hn
 |.ext _ _ _ _,hn,_,p,_,h=>by cases p<;>cases h;exact hn
theorem qbv:(τ:Ty)->τ.noFx=true->∀{x:τ.den} {p:List qq} {y},qP τ x p=some y->y.1.noFx=true
 |.pair a b,hn,x,p,y,h=>by
  have hn':=hn
  simp only[Ty.noFx,Bool.and_eq_true]at hn'
  match p with
  |[]=>cases h;exact hn
  |.L::q=>exact qbv a hn'.1 h
  |.R::q=>exact qbv b hn'.2 h
  |.I _::_=>cases h
 |.str t,hn,x,p,y,h=>by
  match p with
  |[]=>cases h;exact hn
  |s::q=>exact qbv t hn h
 |.ext _ _ _ _,hn,_,p,_,h=>by cases p<;>cases h;exact hn
 |.list o t e,hn,x,p,y,h=>Ty.noFn_noFx _ (qaw (.list o t e) hn h)
 |.arr n e,hn,x,p,y,h=>Ty.noFn_noFx _ (qaw (.arr n e) hn h)
 |.op t,hn,x,p,y,h=>Ty.noFn_noFx _ (qaw (.op t) hn h)
 |.int k,hn,x,p,y,h=>Ty.noFn_noFx _ (qaw (.int k) hn h)
 |.bool,hn,x,p,y,h=>Ty.noFn_noFx _ (qaw .bool hn h)
 |.ptr t,hn,x,p,y,h=>Ty.noFn_noFx _ (qaw (.ptr t) hn h)
 |.fn a r,hn,x,p,y,h=>Ty.noFn_noFx _ (qaw (.fn a r) hn h)
 |.fn2 a b r,hn,x,p,y,h=>Ty.noFn_noFx _ (qaw (.fn2 a b r) hn h)
theorem qg.congr{s s':St}{a:Act}{w:World}{H:FH}{Φ:Nat->qB}(h:qg P C s a w H Φ)(hg:s'.get=s.get)(ho:s'.obj=s.obj):qg P C s' a w H Φ:=
 ⟨h.defers,h.size,h.le,h.hok,h.hnew,h.mod,by rw[hg,ho];exact h.ts,by rw[ho];exact h.os,by rw[ho];exact h.disj,h.pins⟩
theorem qeF{id:Nat}{j:Nat}{p:List qq}(h:AV.names id (.ptr j p)=false):j≠id:=Nat.ne_of_beq_eq_false h
theorem qee{id:Nat}{j:Nat}{p:List qq}(h:AV.names id (.view j p)=false):j≠id:=Nat.ne_of_beq_eq_false h
theorem qg.remove{s:St}{a:Act}{w:World}{H:FH}{Φ:Nat->qB}(h:qg P C s a w H Φ)(id:Nat):qg P C ((s.kill id).setObj id none) a w H Φ:=by
 have ho:∀j o,((s.kill id).setObj id none).obj j=some o->s.obj j=some o/\j≠id:=by
  intro j o hj
  rw[St.obj_setObj]at hj
  split at hj
  ·cases hj
  ·rename_i hne;exact⟨hj,λe=>hne e.symm⟩
 refine h.weaken (λj o hj=>(ho j o hj).1) ?_
 intro t av ht
 rw[St.get_setObj,St.kill,St.get_killIf]at ht
 obtain⟨av0,h0,rfl⟩:=Option.map_eq_some_iff.1 ht
 have hos:∀j o,j≠id->s.obj j=some o->((s.kill id).setObj id none).obj j=some o:=by
  intro j o hj ho
  rw[St.obj_setObj,if_neg (λe=>hj e.symm)];exact ho
 refine qh.transfer (AV.names id) (FH.le_refl _) ?_ ?_ ?_ av0 _ (h.ts t av0 h0)
 ·intro j p v hf hr
  exact qh.ptr_stay (λo ho=>hos j o (qeF hf) ho) rfl (λo ho=>⟨(h.os j o ho).1,λ_ _=>rfl⟩) hr
 ·intro j p v hf hr
  exact qh.view_stay (λo ho=>hos j o (qee hf) ho) rfl (λo ho=>⟨(h.os j o ho).1,λ_ _=>rfl⟩) hr
 ·intro j p t e l v hf;cases hf
theorem qg.killIf{s:St}{a:Act}{w:World}{H:FH}{Φ:Nat->qB}(h:qg P C s a w H Φ)(f:AV->Bool):qg P C (s.killIf f) a w H Φ:=by
 refine h.weaken (λj o hj=>hj) ?_
 intro t av ht
 rw[St.get_killIf]at ht
 obtain⟨av0,h0,rfl⟩:=Option.map_eq_some_iff.1 ht
 exact qh.transfer f (FH.le_refl _) (λ_ _ _ _ hr=>hr) (λ_ _ _ _ hr=>hr) (λ_ _ _ _ _ _ _ hr=>hr) av0 _ (h.ts t av0 h0)
def qaQ(Φ:Nat->qB)(id:Nat)(φ:qB)(j:Nat):qB:=if j=id then φ else Φ j
theorem qr(Φ:Nat->qB)(id:Nat)(φ:qB):qaQ Φ id φ id=φ:=if_pos rfl
theorem qR(Φ:Nat->qB){id j:Nat}(φ:qB)(h:j≠id):qaQ Φ id φ j=Φ j:=if_neg h
theorem qg.newObj{s:St}{a:Act}{w w':World}{H:FH}{Φ:Nat->qB}(h:qg P C s a w H Φ)(hm:jM qV w w'){id:Nat}(hpin:C.pin id=none)
  {row:Bool} {τ:Ty} {x:τ.den} {φ:qB} (hcl:cls id φ.hdr) (hok:qK P w' H ⟨row,τ,x⟩ φ)
  (hfp:∀b∈φ.fp,H b=none/\(C.M0 b\/C.w0.heap.size<=b)/\b<w'.heap.size/\∀j o',j≠id->s.obj j=some o'->b∉(Φ j).fp):
  qg P C (s.newObj id row τ x) a w' H (qaQ Φ id φ):=by
 have hg:=h.grow hm
 have hw:∀b,b<w.heap.size->w'.heap[b]? = w.heap[b]?:=λb hb=>hm.block b hb (λh=>h)
 have hob:∀j,(s.newObj id row τ x).obj j=if id=j then some ⟨row,τ,x⟩else s.obj j:=λj=>St.obj_setObj _ _ _ _
 have hos:∀j o,j≠id->s.obj j=some o->(s.newObj id row τ x).obj j=some o:=by
  intro j o hj ho
  rw[hob,if_neg (λe=>hj e.symm)];exact ho
 refine⟨h.defers,h.size,h.le,hg.hok,h.hnew,hg.mod,?_,?_,?_,?_⟩
 ·intro t av ht
  have ht':(s.kill id).get t=some av:=ht
  rw[St.kill,St.get_killIf]at ht'
  obtain⟨av0,h0,rfl⟩:=Option.map_eq_some_iff.1 ht'
  refine qh.transfer (AV.names id) (FH.le_refl _) ?_ ?_ ?_ av0 _ (h.ts t av0 h0)
  ·intro j p v hf hr
   exact qh.ptr_stay (λo ho=>hos j o (qeF hf) ho) (qR _ _ (qeF hf)) (λo ho=>⟨(h.os j o ho).1,λb hb=>hw b ((h.os j o ho).2 b hb).2.2⟩) hr
  ·intro j p v hf hr
   exact qh.view_stay (λo ho=>hos j o (qee hf) ho) (qR _ _ (qee hf)) (λo ho=>⟨(h.os j o ho).1,λb hb=>hw b ((h.os j o ho).2 b hb).2.2⟩) hr
  ·intro j p t e l v hf;cases hf
 ·intro j o ho
  rw[hob]at ho
  split at ho
  ·rename_i e
   subst e
   cases ho
   rw[qr]
   exact⟨hok,λb hb=>⟨(hfp b hb).1,(hfp b hb).2.1,(hfp b hb).2.2.1⟩⟩
  ·rename_i e
   rw[qR _ _ (λe'=>e e'.symm)]
   exact hg.os j o ho
 ·intro i j o o' hij h1 h2 b hb
  rw[hob]at h1 h2
  split at h1
  ·rename_i e
   subst e
   rw[qr]at hb
   rw[if_neg hij]at h2
   rw[qR _ _ (λe'=>hij e'.symm)]
   exact(hfp b hb).2.2.2 j o' (λe'=>hij e'.symm) h2
  ·rename_i e
   rw[qR _ _ (λe'=>e e'.symm)]at hb
   split at h2
   ·rename_i e2
    subst e2
    rw[qr]
    intro hb'
    exact(hfp b hb').2.2.2 i o hij h1 hb
   ·rename_i e2
    rw[qR _ _ (λe'=>e2 e'.symm)]
    exact h.disj i j o o' hij h1 h2 b hb
 ·refine⟨λj φ' hj=>?_,λj=>?_⟩
  ·by_cases e:j=id
   ·subst e;rw[hpin]at hj;cases hj
   ·rw[qR _ _ e];exact h.pins.1 j φ' hj
  ·by_cases e:j=id
   ·subst e;rw[qr];exact hcl
   ·rw[qR _ _ e];exact h.pins.2 j
def frz(w:World)(H:FH)(fp:List Nat)(b:Nat):Option FB:=
 if b∈fp then(match w.heap[b]? with|some (.cells c _ _)=>some (.cells c)|some (.map es n)=>some (.map es n)|_=>none)else H b
theorem qgW{w:World}{H:FH}{fp:List Nat}(h:∀b∈fp,H b=none):H.le (frz w H fp):=by
 intro b c hb
 unfold frz
 rw[if_neg (λhh=>by rw[h b hh]at hb;cases hb)]
 exact hb
theorem qmX{w:World}{H:FH}{fp:List Nat}:∀b∈fp,∀c:FB,c.At w b->frz w H fp b=some c:=by
 intro b hb c hw
 cases c with
 |cells c=>obtain⟨t,f,hw⟩:=hw;simp[frz,hb,hw]
 |map es n=>have hw:w.heap[b]? = some (.map es n):=hw;simp[frz,hb,hw]
theorem qnz{w:World}{H:FH}{fp:List Nat}(h:HOk H w):HOk (frz w H fp) w:=by
 intro b c hb
 unfold frz at hb
 split at hb
 ·split at hb
  ·rename_i e;cases hb;exact⟨_,_,e⟩
  ·rename_i e;cases hb;exact e
  ·cases hb
 ·exact h b c hb
theorem qkI{w:World}{H:FH}{fp:List Nat}{b:Nat}{c:FB}(h:frz w H fp b=some c):H b=some c\/b∈fp:=by
 unfold frz at h
 split at h
 ·exact .inr ‹_›
 ·exact .inl h
theorem qU{c:Array Value}{pre m post:List Value}{n:Nat}(h:c.toList=pre++m++post)(hn:m.length=n):seg c pre.length n=m:=by
 unfold seg
 rw[h,List.append_assoc,List.drop_left,<-hn,List.take_left]
theorem qhW(τ:Ty)(cs:List Value):jZ τ.fz cs=jZ τ cs:=by simp[jZ,Ty.isAgg_fz]
theorem qh.frozen{w:World}{H H':FH}{Φ:Nat->qB}{os os':Nat->Option Obj}{id:Nat}{o:Obj}(ho:os id=some o)(hH:H.le H')
  (hin:∀b∈(Φ id).fp,∀c:FB,c.At w b->H' b=some c) (hok:∀j o,os j=some o->qK P w H o (Φ j)) (hos:∀j o,j≠id->os j=some o->os' j=some o):
  ∀(av:AV) (v:Value),qh P C w H Φ os av v->qh P C w H' Φ os' (av.frozen id o) v
 |.dead,_,_=>trivial
 |.val τ x,v,⟨h1,cs,h2,h3⟩=>⟨h1,cs,h2,qm.mono _ hH (by simp) h3⟩
 |.ref τ x,v,⟨h1,b,off,blk,h2,h3,h4⟩=>⟨h1,b,off,blk,h2,hH _ _ h3,qm.mono _ hH (by simp) h4⟩
 |.ptr i p,v,h=>by
  simp only[AV.frozen]
  cases hi:Nat.beq i id with
  |false=>
   have hne:=Nat.ne_of_beq_eq_false hi
   exact qh.ptr_stay (λo' ho'=>hos i o' hne ho') rfl (λo' ho'=>⟨hok i o' ho',λ_ _=>rfl⟩) h
  |true=>
   obtain rfl:=Nat.eq_of_beq_eq_true hi
   cases hr:o.row with
   |true=>trivial
   |false=>
    show qh P C w H' Φ os' (match qhB o.τ o.x p with|some y=>_|none=>.dead) v
    cases hy:qhB o.τ o.x p with
    |none=>trivial
    |some y=>
     obtain⟨o1,y1,b,off,h1,h2,h3,h4,h5⟩:=h
     rw[ho]at h1
     cases h1
     have hg:=qd0 _ hy
     rw[hg]at h3
     cases h3
     obtain⟨b',o',hl,blk',t',pre',c,post',f1,f,f2,e1,e2,e3,e4,e5,e6,_⟩:=(hok i o ho).desc (y:=y.2) hg ⟨w,_,_,h4⟩ h2
     obtain⟨rfl,rfl⟩:=jS.det h4 (hl w (λ_ _=>rfl))
     have hnf:y.1.noFx=true:=qbv _ (hok i o ho).1 hg
     refine⟨Ty.isFz_fz _,b,off,blk',h5,hin b (by rw[e4];simp[e5]) (.cells _) ⟨_,_,e1⟩,?_⟩
     rw[Ty.size_fz,<-e3,qU e2 (qm.length _ e6)]
     exact qm.freezeX y.1 hnf w hH (λb hb=>hin b (by rw[e4];simp[hb])) e6 _
 |.view i p,v,h=>by
  simp only[AV.frozen]
  cases hi:Nat.beq i id with
  |false=>
   have hne:=Nat.ne_of_beq_eq_false hi
   exact qh.view_stay (λo' ho'=>hos i o' hne ho') rfl (λo' ho'=>⟨hok i o' ho',λ_ _=>rfl⟩) h
  |true=>
   obtain rfl:=Nat.eq_of_beq_eq_true hi
   show qh P C w H' Φ os' (match qhB o.τ o.x p with|some y=>_|none=>.dead) v
   cases hy:qhB o.τ o.x p with
   |none=>trivial
   |some y=>
    obtain⟨o1,y1,h1,h3,h4⟩:=h
    rw[ho]at h1
    cases h1
    have hg:=qd0 _ hy
    rw[hg]at h3
    cases h3
    have hnf:y.1.noFx=true:=qbv _ (hok i o ho).1 hg
    cases hr:o.row&&p.isEmpty with
    |true=>
     rw[hr]at h4
     simp only[Bool.and_eq_true,List.isEmpty_iff]at hr
     obtain⟨hrow,rfl⟩:=hr
     rw[qH]at hg
     cases hg
     obtain⟨hn,_,h5⟩:=hok i o ho
     rw[hrow]at h5
     obtain⟨_,cs,hcs,h6⟩:=h5
     refine⟨Ty.isFz_fz _,cs,?_,qm.freezeX o.τ hn w hH hin h6 _⟩
     simp only at h4
     rw[h4,qhW]
     exact hcs
    |false=>
     rw[hr]at h4
     obtain⟨b,off,blk,t,h5,h6,h7⟩:=h4
     obtain⟨b',o',hl,blk',t',pre',c,post',f1,f,f2,e1,e2,e3,e4,e5,e6,_⟩:=(hok i o ho).desc (y:=y.2) hg ⟨w,_,_,h5⟩ hr
     obtain⟨rfl,rfl⟩:=jS.det h5 (hl w (λ_ _=>rfl))
     rw[e1]at h6
     cases h6
     refine⟨Ty.isFz_fz _,c,?_,qm.freezeX y.1 hnf w hH (λb hb=>hin b (by rw[e4];simp[hb])) e6 _⟩
     rw[h7,qhW,<-e3,qU e2 (qm.length _ e6)]
 |.upd _ _ _ _ _,_,_=>trivial
 |.cut i p z lo,v,h=>by
  simp only[AV.frozen]
  cases hi:Nat.beq i id with
  |true=>trivial
  |false=>
   have hne:=Nat.ne_of_beq_eq_false hi
   obtain⟨v0,h1,h2⟩:=h
   exact⟨v0,qh.view_stay (P:=P) (C:=C) (H:=H) (H':=H') (p:=p) (λo' ho'=>hos i o' hne ho') rfl (λo' ho'=>⟨hok i o' ho',λ_ _=>rfl⟩) h1,h2⟩
 |.fn g a b,v,⟨vs,us,h1,h2,h3⟩=>⟨vs,us,h1,qh.frozen ho hH hin hok hos a _ h2,qh.frozen ho hH hin hok hos b _ h3⟩
 |.nil,v,h=>h
 |.gh n a,v,⟨u,h1,h2⟩=>⟨u,h1,qh.frozen ho hH hin hok hos a _ h2⟩
 |.cv i g n,v,⟨b,cv,h1,h2⟩=>⟨b,cv,hH _ _ h1,h2⟩
 |.cons a b,v,⟨u,us,h1,h2,h3⟩=>⟨u,us,h1,qh.frozen ho hH hin hok hos a _ h2,qh.frozen ho hH hin hok hos b _ h3⟩
theorem qg.freeze{s:St}{a:Act}{w:World}{H:FH}{Φ:Nat->qB}(h:qg P C s a w H Φ)(id:Nat):
  ∃H',H.le H'/\(∀b c,H' b=some c->H b=some c\/∃o,s.obj id=some o/\b∈(Φ id).fp)/\(∀o,s.obj id=some o->∀b∈(Φ id).fp,∀c:FB,c.At w b->H' b=some c)/\qg P C (s.freeze id) a w H' Φ:=by
 unfold St.freeze
 cases ho:s.obj id with
 |none=>exact⟨H,FH.le_refl _,λ_ _ hb=>.inl hb,(λo hh=>by cases hh),h⟩
 |some o=>
  have hnone:∀b∈(Φ id).fp,H b=none:=λb hb=>((h.os id o ho).2 b hb).1
  have hob:∀j,(St.mk (s.ts.map λx=>(x.1,x.2.frozen id o)) ((id,none)::s.os) s.mp).obj j=if id=j then none else s.obj j:=λj=>St.obj_setObj s id j none
  have hsub:∀j o',(St.mk (s.ts.map λx=>(x.1,x.2.frozen id o)) ((id,none)::s.os) s.mp).obj j=some o'->s.obj j=some o'/\j≠id:=by
   intro j o' hj
   rw[hob]at hj
   split at hj
   ·cases hj
   ·rename_i e;exact⟨hj,λe'=>e e'.symm⟩
  refine⟨frz w H (Φ id).fp,qgW hnone,λb c hb=>(qkI hb).imp_right (λhh=>⟨o,rfl,hh⟩),λo' _=>qmX,h.defers,h.size,FH.le_trans h.le (qgW hnone),qnz h.hok,?_,h.mod,?_,?_,?_,h.pins⟩
  ·intro b c hb
   rcases qkI hb with hb|hb
   ·exact h.hnew b c hb
   ·exact .inr ((h.os id o ho).2 b hb).2.1
  ·intro t av ht
   have ht':lk (s.ts.map λx=>(x.1,x.2.frozen id o)) t=some av:=ht
   rw[qmM]at ht'
   obtain⟨av0,h0,rfl⟩:=Option.map_eq_some_iff.1 ht'
   exact qh.frozen ho (qgW hnone) qmX (λj o hj=>(h.os j o hj).1) (λj o' hj hoj=>by rw[hob,if_neg (λe=>hj e.symm)];exact hoj) av0 _ (h.ts t av0 h0)
  ·intro j o' hj
   obtain⟨hj,hne⟩:=hsub j o' hj
   obtain⟨h1,h2⟩:=h.os j o' hj
   refine⟨h1.frame (qgW hnone) (λ_ _=>rfl),λb hb=>⟨?_,(h2 b hb).2⟩⟩
   unfold frz
   rw[if_neg (h.disj j id o' o hne hj ho b hb)]
   exact(h2 b hb).1
  ·intro i j o1 o2 hij h1 h2
   exact h.disj i j o1 o2 hij (hsub _ _ h1).1 (hsub _ _ h2).1
theorem qbm:(τ:Ty)->∀(x:τ.den) {p:List qq} {σ:Ty},p.any qq.isI=false->qci τ p=some σ->∃y:σ.den,qP τ x p=some ⟨σ,y⟩
 |.pair a b,x,p,σ,hp,h=>by
  match p with
  |[]=>cases h;exact⟨x,rfl⟩
  |.L::q=>exact qbm a x.1 (by simpa[qq.isI]using hp) h
  |.R::q=>exact qbm b x.2 (by simpa[qq.isI]using hp) h
  |.I _::_=>cases h
 |.str t,x,p,σ,hp,h=>by
  match p with
  |[]=>cases h;exact⟨x,rfl⟩
  |s::q=>exact qbm t x hp h
 |.list true tid e,x,p,σ,hp,h=>by
  match p with
  |[]=>cases h;exact⟨x,rfl⟩
  |.L::_=>cases h
  |.R::_=>cases h
  |.I _::_=>simp[qq.isI]at hp
 |.arr n e,x,p,σ,hp,h=>by
  match p with
  |[]=>cases h;exact⟨x,rfl⟩
  |.L::_=>cases h
  |.R::_=>cases h
  |.I _::_=>simp[qq.isI]at hp
 |.op _,x,p,σ,hp,h=>by
  match p with
  |[]=>cases h;exact⟨x,rfl⟩
  |.L::_=>cases h
  |.R::_=>cases h
  |.I _::_=>simp[qq.isI]at hp
 |.int _,x,p,_,_,h=>by cases p<;>cases h;exact⟨x,rfl⟩
 |.bool,x,p,_,_,h=>by cases p<;>cases h;exact⟨x,rfl⟩
 |.list false _ _,x,p,_,_,h=>by cases p<;>cases h;exact⟨x,rfl⟩
 |.ptr _,x,p,_,_,h=>by cases p<;>cases h;exact⟨x,rfl⟩
 |.fn _ _,x,p,_,_,h=>by cases p<;>cases h;exact⟨x,rfl⟩
 |.fn2 _ _ _,x,p,_,_,h=>by cases p<;>cases h;exact⟨x,rfl⟩
 |.ext _ _ _ _,x,p,_,_,h=>by cases p<;>cases h;exact⟨x,rfl⟩
theorem jO.range:(τ:Ty)->∀{w:World} {b o:Nat} {p:List qq} {b' o':Nat} {σ:Ty},p.any qq.isI=false->jO w τ b o p b' o'->qci τ p=some σ->b'=b/\o<=o'/\o'+σ.size<=o+τ.size
 |.pair x y,w,b,o,p,b',o',σ,hp,h,ht=>by
  match p with
  |[]=>cases ht;exact⟨h.1,by have:=h.2;omega,by have:=h.2;omega⟩
  |.L::q=>obtain⟨h1,h2,h3⟩:=jO.range x (by simpa[qq.isI]using hp) h ht;exact⟨h1,h2,by simp only[Ty.size];omega⟩
  |.R::q=>obtain⟨h1,h2,h3⟩:=jO.range y (by simpa[qq.isI]using hp) h ht;exact⟨h1,by omega,by simp only[Ty.size];omega⟩
  |.I _::_=>cases ht
 |.str t,w,b,o,p,b',o',σ,hp,h,ht=>by
  match p with
  |[]=>cases ht;exact⟨h.1,by have:=h.2;omega,by have:=h.2;omega⟩
  |s::q=>exact jO.range t hp h ht
 |.list true _ e,w,b,o,p,b',o',σ,hp,h,ht=>by
  match p with
  |[]=>cases ht;exact⟨h.1,by have:=h.2;omega,by have:=h.2;omega⟩
  |.L::_=>cases ht
  |.R::_=>cases ht
  |.I _::_=>simp[qq.isI]at hp
 |.arr n e,w,b,o,p,b',o',σ,hp,h,ht=>by
  match p with
  |[]=>cases ht;exact⟨h.1,by have:=h.2;omega,by have:=h.2;omega⟩
  |.L::_=>cases ht
  |.R::_=>cases ht
  |.I _::_=>simp[qq.isI]at hp
 |.op _,w,b,o,p,b',o',σ,hp,h,ht=>by
  match p with
  |[]=>cases ht;exact⟨h.1,by have:=h.2;omega,by have:=h.2;omega⟩
  |.L::_=>cases ht
  |.R::_=>cases ht
  |.I _::_=>simp[qq.isI]at hp
 |.int _,w,b,o,p,b',o',σ,hp,h,ht=>by obtain⟨rfl,rfl,rfl⟩:=h;cases ht;exact⟨rfl,Nat.le_refl _,Nat.le_refl _⟩
 |.bool,w,b,o,p,b',o',σ,hp,h,ht=>by obtain⟨rfl,rfl,rfl⟩:=h;cases ht;exact⟨rfl,Nat.le_refl _,Nat.le_refl _⟩
 |.list false _ _,w,b,o,p,b',o',σ,hp,h,ht=>by obtain⟨rfl,rfl,rfl⟩:=h;cases ht;exact⟨rfl,Nat.le_refl _,Nat.le_refl _⟩
 |.ptr _,w,b,o,p,b',o',σ,hp,h,ht=>by obtain⟨rfl,rfl,rfl⟩:=h;cases ht;exact⟨rfl,Nat.le_refl _,Nat.le_refl _⟩
 |.fn _ _,w,b,o,p,b',o',σ,hp,h,ht=>by obtain⟨rfl,rfl,rfl⟩:=h;cases ht;exact⟨rfl,Nat.le_refl _,Nat.le_refl _⟩
 |.fn2 _ _ _,w,b,o,p,b',o',σ,hp,h,ht=>by obtain⟨rfl,rfl,rfl⟩:=h;cases ht;exact⟨rfl,Nat.le_refl _,Nat.le_refl _⟩
 |.ext _ _ _ _,w,b,o,p,b',o',σ,hp,h,ht=>by obtain⟨rfl,rfl,rfl⟩:=h;cases ht;exact⟨rfl,Nat.le_refl _,Nat.le_refl _⟩
theorem qg.changeF{F:AV->Bool}{s:St}{a:Act}{w w':World}{H H':FH}{Φ:Nat->qB}(h:qg P C s a w H Φ){id:Nat}{o:Obj}(ho:s.obj id=some o)(x':o.τ.den)(φ:qB)(hb:φ.b=(Φ id).b)
  (hhdr:φ.hdr=(Φ id).hdr) (hH:H.le H') (hok':HOk H' w') (hnew:∀b c,H' b=some c->C.H0 b=some c\/C.M0 b\/C.w0.heap.size<=b) (hmod:jM C.M0 C.w0 w') (hsz:w.heap.size<=w'.heap.size)
  (hw:∀j o',j≠id->s.obj j=some o'->∀b∈(Φ j).fp,w'.heap[b]? = w.heap[b]?/\H' b=none)
  (hobj:qK P w' H' ⟨o.row,o.τ,x'⟩ φ) (hfp:∀b∈φ.fp,H' b=none/\(C.M0 b\/C.w0.heap.size<=b)/\b<w'.heap.size/\∀j o',j≠id->s.obj j=some o'->b∉(Φ j).fp)
  (hFp:∀q,F (.ptr id q)=false->q.any qq.isI=false\/∀y,qP o.τ o.x q=some y->(∀b off,jS w o (Φ id) q b off->jS w' ⟨o.row,o.τ,x'⟩ φ q b off)/\∃y',qP o.τ x' q=some ⟨y.1,y'⟩) (hFu:∀i p t e l,F (.upd i p t e l)=true)
  (hFv:∀q,F (.view id q)=false->(o.row&&q.isEmpty)=true\/∀y b off blk t,(o.row&&q.isEmpty)=false->qP o.τ o.x q=some y->jS w o (Φ id) q b off->w.heap[b]? = some (.cells blk t (0,0))->∃y' b' off' blk' t',y'.1=y.1/\qP o.τ x' q=some y'/\jS w' ⟨o.row,o.τ,x'⟩ φ q b' off'/\w'.heap[b']? = some (.cells blk' t' (0,0))/\seg blk' off' y.1.size=seg blk off y.1.size):
  qg P C ((s.killIf F).setObj id (some ⟨o.row,o.τ,x'⟩)) a w' H' (qaQ Φ id φ):=by
 have hob:∀j,((s.killIf F).setObj id (some ⟨o.row,o.τ,x'⟩)).obj j=if id=j then some ⟨o.row,o.τ,x'⟩else s.obj j:=λj=>St.obj_setObj _ _ _ _
 have hos:∀j o',j≠id->s.obj j=some o'->((s.killIf F).setObj id (some ⟨o.row,o.τ,x'⟩)).obj j=some o':=by
  intro j o' hj hoj
  rw[hob,if_neg (λe=>hj e.symm)];exact hoj
 refine⟨h.defers,h.size,FH.le_trans h.le hH,hok',hnew,hmod,?_,?_,?_,?_⟩
 ·intro t av ht
  rw[St.get_setObj,St.get_killIf]at ht
  obtain⟨av0,h0,rfl⟩:=Option.map_eq_some_iff.1 ht
  refine qh.transfer F hH ?_ ?_ ?_ av0 _ (h.ts t av0 h0)
  ·intro j p v hf hr
   by_cases hj:j=id
   ·subst hj
    obtain⟨o1,y,b,off,h1,h2,h3,h4,h5⟩:=hr
    rw[ho]at h1
    cases h1
    rcases hFp _ hf with hp|hp
    case inr=>
     obtain⟨k1,y',hy'⟩:=hp y h3
     exact⟨⟨o.row,o.τ,x'⟩,⟨y.1,y'⟩,b,off,by rw[hob,if_pos rfl],h2,hy',by rw[qr];exact k1 _ _ h4,h5⟩
    have hrow:o.row=false:=by
     cases hr:o.row with
     |false=>rfl
     |true=>
      exfalso
      obtain⟨row,τ,x⟩:=o
      simp only at hr
      subst hr
      unfold jS at h4
      simp only at h4
      split at h4
      ·simp[qq.isI]at hp
      ·exact h4
    obtain⟨y',hy'⟩:=qbm o.τ x' hp (jD _ h3)
    refine⟨⟨o.row,o.τ,x'⟩,⟨y.1,y'⟩,b,off,?_,h2,hy',?_,h5⟩
    ·rw[hob,if_pos rfl]
    ·rw[qr]
     unfold jS at h4 ⊢
     simp only[hrow]at h4 ⊢
     rw[hb]
     exact jO.static _ hp h4
   ·exact qh.ptr_stay (λo ho=>hos j o hj ho) (qR _ _ hj) (λo1 ho1=>⟨(h.os j o1 ho1).1,λb hb=>(hw j o1 hj ho1 b hb).1⟩) hr
  ·intro j p v hf hr
   by_cases hj:j=id
   ·subst hj
    obtain⟨o1,y,h1,h2,h3⟩:=hr
    rw[ho]at h1
    cases h1
    cases hp:o.row&&p.isEmpty with
    |true=>
     rw[hp]at h3
     simp only[Bool.and_eq_true,List.isEmpty_iff]at hp
     obtain⟨hrow,rfl⟩:=hp
     refine⟨⟨o.row,o.τ,x'⟩,⟨o.τ,x'⟩,by rw[hob,if_pos rfl],qH _ _,?_⟩
     simp only[hrow,List.isEmpty_nil,Bool.and_self,qr,hhdr]
     exact h3
    |false=>
     rw[hp]at h3
     obtain⟨b,off,blk,t,h4,h5,h6⟩:=h3
     rcases hFv p hf with hq|hq
     ·rw[hp]at hq;cases hq
     ·obtain⟨y',b',off',blk',t',g0,g1,g2,g3,g4⟩:=hq y b off blk t hp h2 h4 h5
      refine⟨⟨o.row,o.τ,x'⟩,y',by rw[hob,if_pos rfl],g1,?_⟩
      simp only[hp]
      refine⟨b',off',blk',t',?_,g3,by rw[g0,g4];exact h6⟩
      rw[qr]
      exact g2
   ·exact qh.view_stay (λo ho=>hos j o hj ho) (qR _ _ hj) (λo1 ho1=>⟨(h.os j o1 ho1).1,λb hb=>(hw j o1 hj ho1 b hb).1⟩) hr
  ·intro j p t e l v hf;rw[hFu]at hf;cases hf
 ·intro j o1 hj
  rw[hob]at hj
  split at hj
  ·rename_i e
   subst e
   cases hj
   rw[qr]
   exact⟨hobj,λb hb=>⟨(hfp b hb).1,(hfp b hb).2.1,(hfp b hb).2.2.1⟩⟩
  ·rename_i e
   have e':j≠id:=λe'=>e e'.symm
   rw[qR _ _ e']
   obtain⟨h1,h2⟩:=h.os j o1 hj
   exact⟨h1.frame hH (λb hb=>(hw j o1 e' hj b hb).1),λb hb=>⟨(hw j o1 e' hj b hb).2,(h2 b hb).2.1,Nat.lt_of_lt_of_le (h2 b hb).2.2 hsz⟩⟩
 ·intro i j o1 o2 hij h1 h2 b hb
  rw[hob]at h1 h2
  split at h1
  ·rename_i e
   subst e
   rw[qr]at hb
   rw[if_neg hij]at h2
   rw[qR _ _ (λe'=>hij e'.symm)]
   exact(hfp b hb).2.2.2 j o2 (λe'=>hij e'.symm) h2
  ·rename_i e
   rw[qR _ _ (λe'=>e e'.symm)]at hb
   split at h2
   ·rename_i e2
    subst e2
    rw[qr]
    intro hb'
    exact(hfp b hb').2.2.2 i o1 hij h1 hb
   ·rename_i e2
    rw[qR _ _ (λe'=>e2 e'.symm)]
    exact h.disj i j o1 o2 hij h1 h2 b hb
 ·refine⟨λj φ' hj=>?_,λj=>?_⟩
  ·by_cases e:j=id
   ·subst e;rw[qr,hb,hhdr];exact h.pins.1 j φ' hj
   ·rw[qR _ _ e];exact h.pins.1 j φ' hj
  ·by_cases e:j=id
   ·subst e;rw[qr,hhdr];exact h.pins.2 j
   ·rw[qR _ _ e];exact h.pins.2 j
theorem qg.change{s:St}{a:Act}{w w':World}{H H':FH}{Φ:Nat->qB}(h:qg P C s a w H Φ){id:Nat}{o:Obj}(ho:s.obj id=some o)(x':o.τ.den)(φ:qB)(hb:φ.b=(Φ id).b)
  (hhdr:φ.hdr=(Φ id).hdr) (hH:H.le H') (hok':HOk H' w') (hnew:∀b c,H' b=some c->C.H0 b=some c\/C.M0 b\/C.w0.heap.size<=b) (hmod:jM C.M0 C.w0 w') (hsz:w.heap.size<=w'.heap.size)
  (hw:∀j o',j≠id->s.obj j=some o'->∀b∈(Φ j).fp,w'.heap[b]? = w.heap[b]?/\H' b=none)
  (hobj:qK P w' H' ⟨o.row,o.τ,x'⟩ φ) (hfp:∀b∈φ.fp,H' b=none/\(C.M0 b\/C.w0.heap.size<=b)/\b<w'.heap.size/\∀j o',j≠id->s.obj j=some o'->b∉(Φ j).fp):
  qg P C ((s.killIf (AV.stale id o.row)).setObj id (some ⟨o.row,o.τ,x'⟩)) a w' H' (qaQ Φ id φ):=by
 refine h.changeF ho x' φ hb hhdr hH hok' hnew hmod hsz hw hobj hfp (λq hf=>.inl (by simpa[AV.stale]using hf)) (λ_ _ _ _ _=>rfl) (λq hf=>.inl ?_)
 simp only[AV.stale,Nat.beq_refl,Bool.true_and,Bool.not_eq_false']at hf
 exact hf
end
end Go.Vi
namespace Go.Vi
def qm6:Value->Value->Bool
 |.int k n,.int j m=>(k==j)&&(n==m)
 |.bool a,.bool b=>a==b
 |.slice none a b,.slice none c d=>Nat.beq a c&&Nat.beq b d
 |.pointer none,.pointer none=>true
 |.nilFunc,.nilFunc=>true
 |.map none,.map none=>true
 |.nilIface,.nilIface=>true
 |_,_=>false
theorem qoh:∀{u v:Value},qm6 u v=true->u=v:=by
 intro u v h
 unfold qm6 at h
 split at h
 ·simp at h;rw[h.1,h.2]
 ·simp at h;rw[h]
 ·simp at h;rw[h.1,h.2]
 ·rfl
 ·rfl
 ·rfl
 ·rfl
 ·cases h
def qgr:List Value->List Value->Bool
 |[],[]=>true
 |a::l,b::r=>qm6 a b&&qgr l r
 |_,_=>false
theorem qfR:∀{l r:List Value},qgr l r=true->l=r
 |[],[],_=>rfl
 |a::l,b::r,h=>by
  simp only[qgr,Bool.and_eq_true]at h
  rw[qoh h.1,qfR h.2]
 |[],_::_,h=>by cases h
 |_::_,[],h=>by cases h
def qjq(τ:Ty):Option Value->Bool
 |some (.agg cs)=>τ.isAgg&&qgr cs.toList τ.zeroCells
 |some v=>!τ.isAgg&&qgr [v] τ.zeroCells
 |none=>false
theorem zeroB_eq{τ:Ty}{z:Option Value}(h:qjq τ z=true):z=some (jZ τ τ.zeroCells):=by
 unfold qjq at h
 split at h
 ·simp only[Bool.and_eq_true]at h
  simp only[jZ,h.1,cond_true,<-qfR h.2]
 ·simp only[Bool.and_eq_true,Bool.not_eq_true']at h
  simp only[jZ,h.1,cond_false,<-qfR h.2,List.headD_cons]
 ·cases h
def qaN(P:Program)(t:TypeId)(τ:Ty):Bool:=
 match P.info? t with
 |some i=>Nat.beq i.size τ.size&&Nat.blt 0 τ.size&&Nat.ble i.bytes 512&&qjq τ i.zero
 |none=>false
def plainS(P:Program)(t:TypeId)(fs:List Field):Bool:=!P.stoodInHeld t&&fs.all λf=>f.name != "_"
def tyB(P:Program):Ty->(TypeId->Bool)×(List Field->Nat->Bool)
 |.int k=>
  let f:TypeId->Bool:=λt=>qaN P t (.int k)&&(match P.underlying t with|some (.int j)=>j==k|_=>false)
  (f,λl o=>match l with|[x]=>Nat.beq x.offset o&&f x.type|_=>false)
 |.bool=>
  let f:TypeId->Bool:=λt=>qaN P t .bool&&(match P.underlying t with|some .bool=>true|_=>false)
  (f,λl o=>match l with|[x]=>Nat.beq x.offset o&&f x.type|_=>false)
 |.list own tid e=>
  let f:TypeId->Bool:=λt=>qaN P t (.list own tid e)&&(match P.underlying t with|some (.slice u)=>Nat.beq u tid|_=>false)&&(tyB P e).1 tid
  (f,λl o=>match l with|[x]=>Nat.beq x.offset o&&f x.type|_=>false)
 |.pair a b=>(λ_=>false,λl o=>match l with|x::y::r=>Nat.beq x.offset o&&(tyB P a).1 x.type&&(tyB P b).2 (y::r) (o+a.size)|_=>false)
 |.str s=>
  let f:TypeId->Bool:=λt=>qaN P t (.str s)&&(match P.underlying t with|some (.struct fs)=>(tyB P s).2 fs.toList 0&&plainS P t fs.toList|_=>false)
  (f,λl o=>match l with|[x]=>Nat.beq x.offset o&&f x.type|_=>false)
 |.ptr s=>
  let f:TypeId->Bool:=λt=>qaN P t (.ptr s)&&(match P.underlying t with|some (.pointer _)=>true|_=>false)
  (f,λl o=>match l with|[x]=>Nat.beq x.offset o&&f x.type|_=>false)
 |.op s=>
  let f:TypeId->Bool:=λt=>qaN P t (.op s)&&(match P.underlying t with|some (.pointer _)=>true|_=>false)
  (f,λl o=>match l with|[x]=>Nat.beq x.offset o&&f x.type|_=>false)
 |.arr n e=>
  let f:TypeId->Bool:=λt=>qaN P t (.arr n e)&&(match P.underlying t with|some (.array m u)=>Nat.beq m n&&(tyB P e).1 u|_=>false)
  (f,λl o=>match l with|[x]=>Nat.beq x.offset o&&f x.type|_=>false)
 |.fn a r=>
  let f:TypeId->Bool:=λt=>qaN P t (.fn a r)&&(match P.underlying t with|some (.func _ _ _)=>true|_=>false)
  (f,λl o=>match l with|[x]=>Nat.beq x.offset o&&f x.type|_=>false)
 |.fn2 a b r=>
  let f:TypeId->Bool:=λt=>qaN P t (.fn2 a b r)&&(match P.underlying t with|some (.func _ _ _)=>true|_=>false)
  (f,λl o=>match l with|[x]=>Nat.beq x.offset o&&f x.type|_=>false)
 |.ext own n i j=>
  let f:TypeId->Bool:=λt=>qaN P t (.ext own n i j)&&(match P.underlying t with|some (.map k e)=>Nat.ble n 1&&(Nat.beq k i&&Nat.beq e j)|some (.interface _)=>Nat.ble 2 n&&Nat.ble n 4|some (.slice e)=>Nat.ble 5 n&&Nat.beq e i|_=>false)
  (f,λl o=>match l with|[x]=>Nat.beq x.offset o&&f x.type|_=>false)
def qN(P:Program)(t:TypeId)(τ:Ty):Prop:=(tyB P τ).1 t=true
def j5(P:Program)(s:Ty)(l:List Field)(o:Nat):Prop:=(tyB P s).2 l o=true
section
variable {P:Program}
theorem qN.info{t:TypeId}{τ:Ty}(h:qN P t τ):∃i,P.info? t=some i/\i.size=τ.size/\0<τ.size/\i.bytes<=512/\i.zero=some (jZ τ τ.zeroCells):=by
 have hb:qaN P t τ=true:=by
  unfold qN at h
  cases τ<;>simp only[tyB,Bool.and_eq_true,Bool.false_eq_true]at h
  all_goals first|exact h.1|exact h.1.1
 unfold qaN at hb
 split at hb
 ·rename_i i hi
  simp only[Bool.and_eq_true]at hb
  obtain⟨⟨⟨h1,h2⟩,h3⟩,h4⟩:=hb
  exact⟨i,hi,Nat.eq_of_beq_eq_true h1,Eq.mp Nat.blt_eq h2,Nat.le_of_ble_eq_true h3,zeroB_eq h4⟩
 ·cases hb
theorem qN.not_pair{t:TypeId}{a b:Ty}(h:qN P t (.pair a b)):False:=by simp[qN,tyB]at h
theorem qN.list{t:TypeId}{own:Bool}{tid:TypeId}{e:Ty}(h:qN P t (.list own tid e)):P.underlying t=some (.slice tid)/\qN P tid e:=by
 simp only[qN,tyB,Bool.and_eq_true]at h
 obtain⟨⟨_,h1⟩,h2⟩:=h
 refine⟨?_,h2⟩
 split at h1
 ·rename_i e1;rw[e1,Nat.eq_of_beq_eq_true h1]
 ·cases h1
theorem qN.int{t:TypeId}{k:IntKind}(h:qN P t (.int k)):P.underlying t=some (.int k):=by
 simp only[qN,tyB,Bool.and_eq_true]at h
 obtain⟨_,h1⟩:=h
 split at h1
 ·rename_i e1;rw[e1];simp at h1;rw[h1]
 ·cases h1
theorem qN.xmap{t:TypeId}{own:Bool}{n i j:Nat}(h:qN P t (.ext own n i j))(hn:Nat.ble n 1=true):P.underlying t=some (.map i j):=by
 simp only[qN,tyB,Bool.and_eq_true]at h
 obtain⟨_,h1⟩:=h
 split at h1
 ·rename_i e1
  simp only[Bool.and_eq_true]at h1
  rw[e1,Nat.eq_of_beq_eq_true h1.2.1,Nat.eq_of_beq_eq_true h1.2.2]
 ·have:=Nat.le_of_ble_eq_true hn
  rw[Bool.and_eq_true]at h1
  have:=Nat.le_of_ble_eq_true h1.1
  omega
 ·have:=Nat.le_of_ble_eq_true hn
  rw[Bool.and_eq_true]at h1
  have:=Nat.le_of_ble_eq_true h1.1
  omega
 ·cases h1
theorem qN.xrow{t:TypeId}{own:Bool}{n i j:Nat}(h:qN P t (.ext own n i j))(hn:Nat.ble 5 n=true):P.underlying t=some (.slice i):=by
 simp only[qN,tyB,Bool.and_eq_true]at h
 obtain⟨_,h1⟩:=h
 have:=Nat.le_of_ble_eq_true hn
 split at h1
 ·rw[Bool.and_eq_true]at h1
  have:=Nat.le_of_ble_eq_true h1.1
  omega
 ·rw[Bool.and_eq_true]at h1
  have:=Nat.le_of_ble_eq_true h1.2
  omega
 ·rename_i e1
  rw[Bool.and_eq_true]at h1
  rw[e1,Nat.eq_of_beq_eq_true h1.2]
 ·cases h1
theorem qN.bool{t:TypeId}(h:qN P t .bool):P.underlying t=some .bool:=by
 simp only[qN,tyB,Bool.and_eq_true]at h
 obtain⟨_,h1⟩:=h
 split at h1
 ·assumption
 ·cases h1
theorem qN.str{t:TypeId}{s:Ty}(h:qN P t (.str s)):∃fs,P.underlying t=some (.struct fs)/\j5 P s fs.toList 0:=by
 simp only[qN,tyB,Bool.and_eq_true]at h
 obtain⟨_,h1⟩:=h
 split at h1
 ·rename_i fs e1;exact⟨fs,e1,(Bool.and_eq_true_iff.1 h1).1⟩
 ·cases h1
theorem qN.plain{t:TypeId}{s:Ty}(h:qN P t (.str s)):∃fs,P.underlying t=some (.struct fs)/\j5 P s fs.toList 0/\P.stoodInHeld t=false/\∀f∈fs.toList,f.name≠ "_" :=by
 simp only[qN,tyB,Bool.and_eq_true]at h
 obtain⟨_,h1⟩:=h
 split at h1
 ·rename_i fs e1
  obtain⟨h2,h3⟩:=Bool.and_eq_true_iff.1 h1
  unfold plainS at h3
  rw[Bool.and_eq_true,Bool.not_eq_true',List.all_eq_true]at h3
  exact⟨fs,e1,h2,h3.1,λf hf=>by simpa using h3.2 f hf⟩
 ·cases h1
theorem qN.arr{t:TypeId}{n:Nat}{e:Ty}(h:qN P t (.arr n e)):∃u,P.underlying t=some (.array n u)/\qN P u e:=by
 simp only[qN,tyB,Bool.and_eq_true]at h
 obtain⟨_,h1⟩:=h
 split at h1
 ·rename_i m u e1
  simp only[Bool.and_eq_true]at h1
  exact⟨u,by rw[e1,Nat.eq_of_beq_eq_true h1.1],h1.2⟩
 ·cases h1
theorem qN.isAgg{t:TypeId}{τ:Ty}(h:qN P t τ)(w:World):(Go.isAgg t).run P w = .ok τ.isAgg w:=by
 have hu:∃d,P.underlying t=some d/\(match d with|.struct _|.array _ _=>true|_=>false)=τ.isAgg:=by
  cases τ with
  |int k=>exact⟨_,h.int,rfl⟩
  |bool=>exact⟨_,h.bool,rfl⟩
  |list own tid e=>exact⟨_,h.list.1,rfl⟩
  |pair a b=>exact h.not_pair.elim
  |str s=>obtain⟨fs,h1,_⟩:=h.str;exact⟨_,h1,rfl⟩
  |ptr s=>
   simp only[qN,tyB,Bool.and_eq_true]at h
   obtain⟨_,h1⟩:=h
   split at h1
   ·exact⟨_,‹_›,rfl⟩
   ·cases h1
  |ext own n i j=>
   simp only[qN,tyB,Bool.and_eq_true]at h
   obtain⟨_,h1⟩:=h
   split at h1
   ·exact⟨_,‹_›,rfl⟩
   ·exact⟨_,‹_›,rfl⟩
   ·exact⟨_,‹_›,rfl⟩
   ·cases h1
  |op s=>
   simp only[qN,tyB,Bool.and_eq_true]at h
   obtain⟨_,h1⟩:=h
   split at h1
   ·exact⟨_,‹_›,rfl⟩
   ·cases h1
  |arr n e=>obtain⟨u,h1,_⟩:=h.arr;exact⟨_,h1,rfl⟩
  |fn a r=>
   simp only[qN,tyB,Bool.and_eq_true]at h
   obtain⟨_,h1⟩:=h
   split at h1
   ·exact⟨_,‹_›,rfl⟩
   ·cases h1
  |fn2 a b r=>
   simp only[qN,tyB,Bool.and_eq_true]at h
   obtain⟨_,h1⟩:=h
   split at h1
   ·exact⟨_,‹_›,rfl⟩
   ·cases h1
 obtain⟨d,h1,h2⟩:=hu
 simp only[Go.isAgg,Sem.run_bind,run_underlying h1,Result.andThen_ok]
 rw[<-h2]
 cases d<;>rfl
theorem qN.sizeOf{t:TypeId}{τ:Ty}(h:qN P t τ)(w:World):(Go.sizeOf t).run P w = .ok τ.size w:=by
 obtain⟨i,h1,h2,_⟩:=h.info
 simp[Go.sizeOf,typeInfo,h1,h2]
theorem qN.zeroValue{t:TypeId}{τ:Ty}(h:qN P t τ)(w:World):(Go.zeroValue t).run P w = .ok (jZ τ τ.zeroCells) w:=by
 obtain⟨i,h1,_,_,_,h2⟩:=h.info
 simp[Go.zeroValue,typeInfo,h1,h2]
theorem Ty.zeroCells_fz:(τ:Ty)->τ.fz.zeroCells=τ.zeroCells
 |.int _=>rfl
 |.bool=>rfl
 |.list _ _ _=>rfl
 |.pair a b=>by simp[Ty.fz,Ty.zeroCells,Ty.zeroCells_fz a,Ty.zeroCells_fz b]
 |.str t=>Ty.zeroCells_fz t
 |.ptr _=>rfl
 |.op _=>rfl
 |.arr n e=>by simp[Ty.fz,Ty.zeroCells,Ty.zeroCells_fz e]
 |.fn _ _=>rfl
 |.ext _ _ _ _=>rfl
 |.fn2 _ _ _=>rfl
theorem qcA(t:TypeId)(τ:Ty):qaN P t τ.fz=qaN P t τ:=by
 have hz:∀z,qjq τ.fz z=qjq τ z:=by
  intro z
  unfold qjq
  split<;>simp only[Ty.isAgg_fz,Ty.zeroCells_fz]
 unfold qaN
 simp only[Ty.size_fz,hz]
theorem qgB:(τ:Ty)->tyB P τ.fz=tyB P τ
 |.int _=>rfl
 |.bool=>rfl
 |.list own tid e=>by
  have h:∀t,qaN P t (.list false tid e.fz)=qaN P t (.list own tid e):=λt=>qcA t (.list own tid e)
  simp only[Ty.fz,tyB,qgB e,h]
 |.pair a b=>by simp only[Ty.fz,tyB,qgB a,qgB b,Ty.size_fz]
 |.str s=>by
  have h:∀t,qaN P t (.str s.fz)=qaN P t (.str s):=λt=>qcA t (.str s)
  simp only[Ty.fz,tyB,qgB s,h]
 |.ptr s=>by
  have h:∀t,qaN P t (.ptr s.fz)=qaN P t (.ptr s):=λt=>qcA t (.ptr s)
  simp only[Ty.fz,tyB,h]
 |.op s=>by
  have h:∀t,qaN P t (.ptr s.fz)=qaN P t (.op s):=λt=>qcA t (.op s)
  simp only[Ty.fz,tyB,h]
 |.ext own n i j=>by
  have h:∀t,qaN P t (.ext false n i j)=qaN P t (.ext own n i j):=λt=>qcA t (.ext own n i j)
  simp only[Ty.fz,tyB,h]
 |.arr n e=>by
  have h:∀t,qaN P t (.arr n e.fz)=qaN P t (.arr n e):=λt=>qcA t (.arr n e)
  simp only[Ty.fz,tyB,qgB e,h]
 |.fn a r=>by
  have h:∀t,qaN P t (.fn a.fz r.fz)=qaN P t (.fn a r):=λt=>qcA t (.fn a r)
  simp only[Ty.fz,tyB,h]
 |.fn2 a b r=>by
  have h:∀t,qaN P t (.fn2 a.fz b.fz r.fz)=qaN P t (.fn2 a b r):=λt=>qcA t (.fn2 a b r)
  simp only[Ty.fz,tyB,h]
theorem qN.unfz{t:TypeId}{τ:Ty}(h:qN P t τ.fz):qN P t τ:=by
 unfold qN at *;rwa[qgB]at h
theorem j5.at:(s:Ty)->∀{l:List Field} {o i:Nat},j5 P s l o->qaD s i=true->
  ∃f σ,l[i]? = some f/\o<=f.offset/\qN P f.type σ/\qci s (qbF s i)=some σ/\(qbF s i).any qq.isI=false/\(∀w b q,jO w s b q (qbF s i) b (q+(f.offset-o)))/\
   ∀{w H x cs fp},qm P s w H x cs fp->∃y:σ.den,qP s x (qbF s i)=some ⟨σ,y⟩/\(∀{R:Type} (k:(σ:Ty)->σ.den->Option R),qjD s x (qbF s i) k=k σ y)/\
    ∃pre c post f1 f2 f3,cs=pre++c++post/\fp=f1++f2++f3/\pre.length=f.offset-o/\qm P σ w H y c f2:=by
 have leaf:∀s:Ty,(∀a b,s≠.pair a b)->∀{l:List Field} {o i:Nat},j5 P s l o->qaD s i=true->
  ∃f σ,l[i]? = some f/\o<=f.offset/\qN P f.type σ/\qci s (qbF s i)=some σ/\(qbF s i).any qq.isI=false/\(∀w b q,jO w s b q (qbF s i) b (q+(f.offset-o)))/\
   ∀{w H x cs fp},qm P s w H x cs fp->∃y:σ.den,qP s x (qbF s i)=some ⟨σ,y⟩/\(∀{R:Type} (k:(σ:Ty)->σ.den->Option R),qjD s x (qbF s i) k=k σ y)/\
    ∃pre c post f1 f2 f3,cs=pre++c++post/\fp=f1++f2++f3/\pre.length=f.offset-o/\qm P σ w H y c f2:=by
  intro s hs l o i hf hi
  have hi0:i=0:=by
   cases s<;>first|exact absurd rfl (hs _ _)|exact Nat.eq_of_beq_eq_true hi
  have hp:qbF s i=[]:=by
   cases s<;>first|exact absurd rfl (hs _ _)|rfl
  have hone:∃f,l=[f]/\f.offset=o/\qN P f.type s:=by
   have hf':(tyB P s).2 l o=true:=hf
   match l with
   |[]=>cases s<;>first|exact absurd rfl (hs _ _)|(simp[tyB]at hf')
   |[f]=>
    refine⟨f,rfl,?_,?_⟩
    ·cases s<;>first|exact absurd rfl (hs _ _)|(simp only[tyB,Bool.and_eq_true]at hf';exact Nat.eq_of_beq_eq_true hf'.1)
    ·cases s<;>first|exact absurd rfl (hs _ _)|(simp only[tyB,Bool.and_eq_true]at hf';simp only[qN,tyB,Bool.and_eq_true];exact hf'.2)
   |_::_::_=>cases s<;>first|exact absurd rfl (hs _ _)|(simp[tyB]at hf')
  obtain⟨f,rfl,ho,ht⟩:=hone
  subst hi0
  refine⟨f,s,rfl,by omega,ht,by rw[hp,qk5],by rw[hp];rfl,?_,?_⟩
  ·intro w b q
   rw[hp,ho,Nat.sub_self]
   exact j6 _ _ _ _
  ·intro w H x cs fp hr
   refine⟨x,by rw[hp,qH],?_,[],cs,[],[],fp,[],by simp,by simp,by simp[ho],hr⟩
   intro R k
   rw[hp]
   cases s<;>first|exact absurd rfl (hs _ _)|rfl
 intro s
 induction s with
 |pair a b iha ihb=>
  intro l o i hf hi
  have hf':(tyB P (.pair a b)).2 l o=true:=hf
  match l with
  |[]=>simp[tyB]at hf'
  |[_]=>simp[tyB]at hf'
  |x::y::r=>
   simp only[tyB,Bool.and_eq_true]at hf'
   obtain⟨⟨h1,h2⟩,h3⟩:=hf'
   have ho:x.offset=o:=Nat.eq_of_beq_eq_true h1
   match i with
   |0=>
    refine⟨x,a,rfl,by omega,h2,qk5 a,rfl,?_,?_⟩
    ·intro w b' q
     rw[ho,Nat.sub_self]
     exact j6 _ a _ _
    ·rintro w H z cs fp ⟨c1,c2,f1,f2,rfl,rfl,r1,r2⟩
     refine⟨z.1,qH a z.1,λk=>?_,[],c1,c2,[],f1,f2,by simp,by simp,by simp[ho],r1⟩
     show qjD a z.1 [] k=_
     cases a<;>rfl
   |i+1=>
    obtain⟨f,σ,q1,q2,q3,q4,q5,q6,q7⟩:=ihb (l:=y::r) (o:=o+a.size) (i:=i) h3 hi
    refine⟨f,σ,q1,by omega,q3,q4,?_,?_,?_⟩
    ·show(qq.R::qbF b i).any qq.isI=false
     simpa[qq.isI]using q5
    ·intro w b' q
     have:=q6 w b' (q+a.size)
     rw[show q+(f.offset-o)=q+a.size+(f.offset-(o+a.size)) by omega]
     exact this
    ·rintro w H z cs fp ⟨c1,c2,f1,f2,rfl,rfl,r1,r2⟩
     obtain⟨y',g1,g2,pre,c,post,k1,k2,k3,e1,e2,e3,e4⟩:=q7 r2
     refine⟨y',g1,λk=>g2 k,c1++pre,c,post,f1++k1,k2,k3,by rw[e1];simp,by rw[e2];simp,?_,e4⟩
     rw[List.length_append,e3,qm.length a r1];omega
 |_=>exact leaf _ (by intro a b h;cases h)
theorem qbc{τ:Ty}{cs:List Value}(hn:∀a b,τ≠.pair a b)(hl:cs.length=τ.size)(h1:∀v∈cs,v.oneCell'=true):(jZ τ cs).cells.toList=cs:=by
 unfold jZ
 cases ha:τ.isAgg with
 |true=>rfl
 |false=>
  rw[Ty.size_pos τ ha hn]at hl
  match cs,hl with
  |[v],_=>
   have:=h1 v (by simp)
   cases v<;>first|rfl|simp[Value.oneCell']at this
theorem qhe{t:TypeId}{τ:Ty}(h:qN P t τ){w:World}{b:Nat}{blk:Array Value}{bt:TypeId}{f:Nat×Nat}{pre c post:List Value}(hb:w.heap[b]? = some (.cells blk bt f))
  (hs:blk.toList=pre++c++post) (hc:c.length=τ.size):(loadVar t ⟨b,pre.length,none⟩).run P w = .ok (jZ τ c) w:=by
 have hcell:∀j v,c[j]? = some v->w.cell? ((⟨b,pre.length,none⟩:Addr).add j)=some v:=by
  intro j v hj
  have:(⟨b,pre.length,none⟩:Addr).add j=⟨b,pre.length+j,none⟩:=by unfold Addr.add;split<;>simp_all
  rw[this,qy hb,<-Array.getElem?_toList,hs,List.append_assoc,List.getElem?_append_right (by omega),Nat.add_sub_cancel_left,List.getElem?_append_left (List.getElem?_eq_some_iff.1 hj).1]
  exact hj
 unfold loadVar
 simp only[Sem.run_bind,h.isAgg,Result.andThen_ok]
 cases ha:τ.isAgg with
 |true=>
  have hl:=run_loadCells_list (P:=P) w ⟨b,pre.length,none⟩ c hcell
  rw[hc]at hl
  simp[h.sizeOf,hl,jZ,ha]
 |false=>
  have hn:∀x y,τ≠.pair x y:=by rintro x y rfl;exact h.not_pair
  rw[Ty.size_pos τ ha hn]at hc
  match c,hc with
  |[v],_=>
   have:=hcell 0 v rfl
   have e:(⟨b,pre.length,none⟩:Addr).add 0=⟨b,pre.length,none⟩:=by simp[Addr.add]
   rw[e]at this
   simp[jZ,ha,this]
theorem qf2{t:TypeId}{τ:Ty}(h:qN P t τ){w:World}{b:Nat}{blk:Array Value}{bt:TypeId}{pre c post c':List Value}(hb:w.heap[b]? = some (.cells blk bt (0,0)))
  (hs:blk.toList=pre++c++post) (hc:c.length=τ.size) (hc':c'.length=τ.size) (h1:∀v∈c',v.oneCell'=true):
  (storeVar t ⟨b,pre.length,none⟩ (jZ τ c')).run P w = .ok () (w.setRow b (pre++c'++post).toArray):=by
 have hn:∀x y,τ≠.pair x y:=by rintro x y rfl;exact h.not_pair
 have hcells:=qbc hn hc' h1
 have hsz:(jZ τ c').cells.size=τ.size:=by rw[<-Array.length_toList,hcells,hc']
 have hlen:blk.size=pre.length+c.length+post.length:=by rw[<-Array.length_toList,hs];simp[Nat.add_assoc]
 unfold storeVar
 simp only[Sem.run_bind,h.sizeOf,Result.andThen_ok,hsz,ne_eq,not_true_eq_false,if_false,hcells]
 have:=run_storeCells_at P b pre.length bt c' 0 blk w hb (by rw[hlen];omega) h1
 simp only[Nat.add_zero]at this
 simp only[this]
 congr 3
 rw[hs,List.append_assoc,List.append_assoc,List.take_left,List.append_assoc,<-List.drop_drop,List.drop_left,hc',<-hc,List.drop_left]
end
end Go.Vi
namespace Go.Vi
def qaa{α β:Type}(R:α->β->Prop):List α->List β->Prop
 |[],[]=>True
 |a::l,b::r=>R a b/\qaa R l r
 |_,_=>False
def qd(l:List qB):List Nat:=l.flatMap (·.fp)
def qap:List Value->Value
 |[v]=>v
 |vs=>.tuple vs.toArray
def jP(P:Program)(w:World)(H:FH):(ps:List jT)->PDens ps->List Value->List qB->Prop
 |[],_,vs,Φs=>vs=[]/\Φs=[]
 |.v τ::ps,d,vs,Φs=>∃v vs' φ Φs',vs=v::vs'/\Φs=φ::Φs'/\τ.isFz=true/\φ.fp=[]/\(∃cs,v=jZ τ cs/\qm P τ w H d.1 cs [])/\jP P w H ps d.2 vs' Φs'
 |.r τ::ps,d,vs,Φs=>∃v vs' φ Φs',vs=v::vs'/\Φs=φ::Φs'/\τ.isFz=true/\φ.fp=[]/\(∃b o blk,v = .pointer (some ⟨b,o,none⟩)/\H b=some (.cells blk)/\qm P τ w H d.1 (seg blk o τ.size) [])/\jP P w H ps d.2 vs' Φs'
 |.c f::ps,d,vs,Φs=>∃v vs' φ Φs',vs=v::vs'/\Φs=φ::Φs'/\True/\φ.fp=[]/\v = .func (.func f) #[] #[]/\jP P w H ps d.2 vs' Φs'
 |.m τ::ps,d,vs,Φs=>∃v vs' φ Φs',vs=v::vs'/\Φs=φ::Φs'/\v = .pointer (some ⟨φ.b,0,none⟩)/\qK P w H ⟨false,τ,d.1⟩ φ/\jP P w H ps d.2 vs' Φs'
 |.gm τ::ps,d,vs,Φs=>∃v vs' φ Φs',vs=v::vs'/\Φs=φ::Φs'/\v = .pointer (some ⟨φ.b,0,none⟩)/\qK P w H ⟨false,τ,d.1⟩ φ/\jP P w H ps d.2 vs' Φs'
 |.mr tid e::ps,d,vs,Φs=>∃v vs' φ Φs',vs=v::vs'/\Φs=φ::Φs'/\v=φ.hdr/\qK P w H ⟨true,.list true tid e,d.1⟩ φ/\jP P w H ps d.2 vs' Φs'
 |.t tid e::ps,d,vs,Φs=>∃v vs' φ Φs',vs=v::vs'/\Φs=φ::Φs'/\v=φ.hdr/\qK P w H ⟨true,.list true tid e,d.1⟩ φ/\jP P w H ps d.2 vs' Φs'
 |.cm f τ::ps,d,vs,Φs=>∃v vs' φ Φs',vs=v::vs'/\Φs=φ::Φs'/\v = .func (.func f) #[] #[.pointer (some ⟨φ.b,0,none⟩)]/\qK P w H ⟨false,τ,d.1⟩ φ/\jP P w H ps d.2 vs' Φs'
def jK(P:Program)(w:World)(H:FH):(ps:List jT)->MDens ps->List Value->List qB->Prop
 |[],_,vs,Φs=>vs=[]/\Φs=[]
 |.v _::ps,d,vs,Φs=>∃v vs' φ Φs',vs=v::vs'/\Φs=φ::Φs'/\φ.fp=[]/\jK P w H ps d vs' Φs'
 |.r _::ps,d,vs,Φs=>∃v vs' φ Φs',vs=v::vs'/\Φs=φ::Φs'/\φ.fp=[]/\jK P w H ps d vs' Φs'
 |.c _::ps,d,vs,Φs=>∃v vs' φ Φs',vs=v::vs'/\Φs=φ::Φs'/\φ.fp=[]/\jK P w H ps d vs' Φs'
 |.t _ _::ps,d,vs,Φs=>∃v vs' φ Φs',vs=v::vs'/\Φs=φ::Φs'/\φ.fp=[]/\jK P w H ps d vs' Φs'
 |.gm _::ps,d,vs,Φs=>∃v vs' φ Φs',vs=v::vs'/\Φs=φ::Φs'/\φ.fp=[]/\jK P w H ps d vs' Φs'
 |.cm f τ::ps,d,vs,Φs=>∃v vs' φ Φs',vs=v::vs'/\Φs=φ::Φs'/\v = .func (.func f) #[] #[.pointer (some ⟨φ.b,0,none⟩)]/\qK P w H ⟨false,τ,d.1⟩ φ/\jK P w H ps d.2 vs' Φs'
 |.m τ::ps,d,vs,Φs=>∃v vs' φ Φs',vs=v::vs'/\Φs=φ::Φs'/\v = .pointer (some ⟨φ.b,0,none⟩)/\qK P w H ⟨false,τ,d.1⟩ φ/\jK P w H ps d.2 vs' Φs'
 |.mr tid e::ps,d,vs,Φs=>∃v vs' φ Φs',vs=v::vs'/\Φs=φ::Φs'/\v=φ.hdr/\qK P w H ⟨true,.list true tid e,d.1⟩ φ/\jK P w H ps d.2 vs' Φs'
def qal(P:Program)(w:World)(H:FH):(rs:List RTy)->RDens rs->List Value->List qB->Prop
 |[],_,vs,Φs=>vs=[]/\Φs=[]
 |.v τ::rs,d,vs,Φs=>∃v vs' φ Φs',vs=v::vs'/\Φs=φ::Φs'/\τ.isFz=true/\φ.fp=[]/\(∃cs,v=jZ τ cs/\qm P τ w H d.1 cs [])/\qal P w H rs d.2 vs' Φs'
 |.own tid e::rs,d,vs,Φs=>∃v vs' φ Φs',vs=v::vs'/\Φs=φ::Φs'/\v=φ.hdr/\qK P w H ⟨true,.list true tid e,d.1⟩ φ/\qal P w H rs d.2 vs' Φs'
 |.sure nn tid e::rs,d,vs,Φs=>∃v vs' φ Φs',vs=v::vs'/\Φs=φ::Φs'/\v=φ.hdr/\qK P w H ⟨true,.list true tid e,d.1⟩ φ/\sureV nn φ.hdr/\qal P w H rs d.2 vs' Φs'
 |.ownv τ::rs,d,vs,Φs=>∃v vs' φ Φs',vs=v::vs'/\Φs=φ::Φs'/\v=φ.hdr/\qK P w H ⟨true,τ,d.1⟩ φ/\qal P w H rs d.2 vs' Φs'
 |.optr τ::rs,d,vs,Φs=>∃v vs' φ Φs',vs=v::vs'/\Φs=φ::Φs'/\v = .pointer (some ⟨φ.b,0,none⟩)/\qK P w H ⟨false,τ,d.1⟩ φ/\qal P w H rs d.2 vs' Φs'
def qj8(P:Program)(f:Nat)(p:jE):Prop:=∀(d:PDens p.ps) (y:RDens p.rs×MDens p.ps),p.g d=some y->∀(w:World) (H:FH) (vs:List Value) (Φs:List qB),HOk H w->jP P w H p.ps d vs Φs->
 (qd Φs).Nodup->(∀b∈qd Φs,H b=none/\b<w.heap.size)->
 Calls P f vs.toArray w λe w'=>∃us H' Φs' Ψs,e = .returned (qap us)/\jM (· ∈qd Φs) w w'/\H.le H'/\HOk H' w'/\(∀b c,H' b=some c->H b=some c\/b∈qd Φs\/w.heap.size<=b)/\
  qal P w' H' p.rs y.1 us Ψs/\jK P w' H' p.ps y.2 vs Φs'/\(qd (Ψs++Φs')).Nodup/\∀b∈qd (Ψs++Φs'),H' b=none/\(b∈qd Φs\/w.heap.size<=b)/\b<w'.heap.size
def qeU(P:Program)(f:Nat)(m:qeV):Prop:=∀(d:PDens m.p.ps) (y:RDens m.p.rs×MDens m.p.ps),m.p.g d=some y->∀(w:World) (H:FH) (vs:List Value) (Φs:List qB),HOk H w->jP P w H m.p.ps d vs Φs->
 (qd Φs).Nodup->(∀b∈qd Φs,H b=none/\b<w.heap.size)->
 Calls P f vs.toArray w λe w'=>∃us H' Φs' Ψs,e = .returned (.func (.func m.f) #[] us.toArray)/\jM (· ∈qd Φs) w w'/\H.le H'/\HOk H' w'/\(∀b c,H' b=some c->H b=some c\/b∈qd Φs\/w.heap.size<=b)/\
  qal P w' H' m.p.rs y.1 us Ψs/\jK P w' H' m.p.ps y.2 vs Φs'/\(qd (Ψs++Φs')).Nodup/\∀b∈qd (Ψs++Φs'),H' b=none/\(b∈qd Φs\/w.heap.size<=b)/\b<w'.heap.size
def qfW(w:World)(τ:Ty)(b:Nat)(p:List qq)(u:Value):Prop:=∃σ b' off blk t,qci τ p=some σ/\jO w τ b 0 p b' off/\w.heap[b']? = some (.cells blk t (0,0))/\u=jZ σ (seg blk off σ.size)
def qfV(P:Program)(f:Nat)(kp:qdB):Prop:=∀(d:PDens kp.prim.ps) (y:RDens kp.prim.rs×MDens kp.prim.ps),kp.prim.g d=some y->∀(w:World) (H:FH) (vs:List Value) (Φs:List qB),HOk H w->jP P w H kp.prim.ps d vs Φs->
 (qd Φs).Nodup->(∀b∈qd Φs,H b=none/\b<w.heap.size)->
 Calls P f vs.toArray w λe w'=>(∃us H' Φs' Ψs,e = .returned (qap us)/\jM (· ∈qd Φs) w w'/\H.le H'/\HOk H' w'/\(∀b c,H' b=some c->H b=some c\/b∈qd Φs\/w.heap.size<=b)/\
  qal P w' H' kp.prim.rs y.1 us Ψs/\jK P w' H' kp.prim.ps y.2 vs Φs'/\(qd (Ψs++Φs')).Nodup/\∀b∈qd (Ψs++Φs'),H' b=none/\(b∈qd Φs\/w.heap.size<=b)/\b<w'.heap.size)/\
  ∀φ∈Φs,∀u,qfW w kp.τ φ.b kp.q u->qfW w' kp.τ φ.b kp.q u
theorem qfV.sound{P:Program}{f:Nat}{kp:qdB}(h:qfV P f kp):qj8 P f kp.prim:=λd y hy w H vs Φs h1 h2 h3 h4=>(h d y hy w H vs Φs h1 h2 h3 h4).mono λ_ _ h=>h.1
def qnc(P:Program)(f:Nat)(mp:qjc):Prop:=∀(d:PDens mp.rest) (x x':mp.τ.den),mp.g d x=some x'->∀(w:World) (H:FH) (vs:List Value) (Φs:List qB) (φ:qB),HOk H w->jP P w H mp.rest d vs Φs->qd Φs=[]->qK P w H ⟨true,mp.τ,x⟩ φ->
 (∀b∈φ.fp,H b=none/\b<w.heap.size)->
 Calls P f (vs.take mp.pos++φ.hdr::vs.drop mp.pos).toArray w λe w'=>∃H' fp',e = .returned (qap [])/\jM (· ∈φ.fp) w w'/\H.le H'/\HOk H' w'/\(∀b c,H' b=some c->H b=some c\/b∈φ.fp\/w.heap.size<=b)/\
  qK P w' H' ⟨true,mp.τ,x'⟩ ⟨φ.b,φ.hdr,fp'⟩/\∀b∈fp',H' b=none/\(b∈φ.fp\/w.heap.size<=b)/\b<w'.heap.size
def SoundL(P:Program)(sp:SelfP):Prop:=∀(d:PDens sp.p.ps) (y:RDens sp.p.rs×MDens sp.p.ps),sp.p.g d=some y->∀(w:World) (H:FH) (vs:List Value) (Φs:List qB),HOk H w->jP P w H sp.p.ps d vs Φs->
 (qd Φs).Nodup->(∀b∈qd Φs,H b=none/\b<w.heap.size)->∀b,H b=some (.cells #[.func (.func sp.f) #[] (vs.drop sp.n++[Value.pointer (some ⟨b,0,none⟩)]).toArray])->
 Calls P sp.f (vs++[Value.pointer (some ⟨b,0,none⟩)]).toArray w λe w'=>∃us H' Φs' Ψs,e = .returned (qap us)/\jM (· ∈qd Φs) w w'/\H.le H'/\HOk H' w'/\(∀b c,H' b=some c->H b=some c\/b∈qd Φs\/w.heap.size<=b)/\
  qal P w' H' sp.p.rs y.1 us Ψs/\jK P w' H' sp.p.ps y.2 vs Φs'/\(qd (Ψs++Φs')).Nodup/\∀b∈qd (Ψs++Φs'),H' b=none/\(b∈qd Φs\/w.heap.size<=b)/\b<w'.heap.size
def qhK(P:Program)(T:Nat):Bool:=
 match P.underlying T with
 |some (.func _ _ _)=>true
 |_=>false
def SoundI(P:Program)(dst:Nat)(il:Inl):Prop:=∀d y,il.g d=some y->∀(C:Ctx) (a:Act) (w:World),(∀id,id<10000000->C.pin id=none)->dst<C.nt->Sim P C (il.ins.fill d) a w->
 ∃f vs us,a.eval il.fop = .func (.func f) vs us/\qW P f/\Calls P f (vs++(il.ops.map a.eval).toArray++us) w λe w'=>∃v,e = .returned v/\Sim P C (il.outs.fill y) (a.put (some dst) v) w'
structure KeyP (P:Program) (i:Nat):Prop where
 keyed:Maps.Keyed P i
 key:∀q:XK,qdi q.1=true->qdi q.2=true->∃kl,keyOf P i (jN q)=some kl
structure XqOK (P:Program) (q:XQ):Prop where
 wrap:P.concrete q.T=true/\P.concrete q.et=true
 asrt:∀(w:World) (v:Value) (xT:TypeId),(Instr.typeAssert (.iface q.et v) xT q.et false).run P w = .ok v w
 len:∀(w:World) (l:List (XK×XK)) (v:Value) (fp:List Nat),qbZ q.T q.et w l [v] fp->∃f args,(callMethod v "Len" #[]).run P w = .ok (.enter f args) w/\Calls P f args w λe w'=>e = .returned (.int .i64 (l.length:Int))/\jM qV w w'
 callable:qW P q.fPop/\qW P q.fPush
 pop:∀(w:World) (l:List (XK×XK)) (v:Value) (fp:List Nat) (x:XK×XK) (l':List (XK×XK)),qbZ q.T q.et w l [v] fp->fp.Nodup->q.pop l=some (x,l')->
  Calls P q.fPop #[v] w λe w'=>e = .returned (.iface q.et (qcO x))/\∃fp',jM (· ∈fp) w w'/\qbZ q.T q.et w' l' [v] fp'/\fp'.Nodup/\∀b∈fp',b∈fp\/w.heap.size<=b
 push:∀(w:World) (l:List (XK×XK)) (v:Value) (fp:List Nat) (x:XK×XK) (l':List (XK×XK)),qbZ q.T q.et w l [v] fp->fp.Nodup->q.push l x=some l'->
  Calls P q.fPush #[v,.iface q.et (qcO x)] w λe w'=>e = .returned (.tuple #[])/\∃fp',jM (· ∈fp) w w'/\qbZ q.T q.et w' l' [v] fp'/\fp'.Nodup/\∀b∈fp',b∈fp\/w.heap.size<=b
structure XsOK (P:Program) (q:XS):Prop where
 callable:qW P q.f
 sort:∀(x:q.τ.den) (l l':List q.e.den),q.sort x l=some l'->∀(w:World) (H:FH) (b o:Nat) (blk:Array Value) (φ:qB),HOk H w->H b=some (.cells blk)->qm P q.τ w H x (seg blk o q.τ.size) []->qK P w H ⟨true,.list true q.tid q.e,l⟩ φ->
  φ.fp.Nodup->(∀c∈φ.fp,H c=none/\c<w.heap.size)->Calls P q.f #[φ.hdr,.func (.func q.g) #[] #[.pointer (some ⟨b,o,none⟩)]] w λe w'=>e = .returned (.tuple #[])/\jM (· ∈φ.fp) w w'/\qK P w' H ⟨true,.list true q.tid q.e,l'⟩ φ
structure qu (P:Program) (cfg:jG):Prop where
 ty:∀t τ,lk cfg.ty t=some τ->qN P t τ/\τ.isFz=true
 prims:∀f p,lk cfg.prims f=some p->qW P f/\qj8 P f p
 alts:∀f p,lk cfg.alts f=some p->qW P f/\qj8 P f p
 small:cfg.nt<=2000
 makers:∀f m,lk cfg.makers f=some m->qW P f/\qeU P f m
 maps:∀T kt vt,lk cfg.maps T=some (kt,vt)->P.underlying T=some (.map kt vt)/\qN P kt (.int .i64)/\qN P vt (.int .i64)
 keeps:∀f kp,lk cfg.keeps f=some kp->qW P f/\qfV P f kp
 mas:∀f mp,lk cfg.mas f=some mp->qW P f/\qnc P f mp
 self:∀sp,cfg.self=some sp->qW P sp.f/\SoundL P sp/\qhK P sp.T=true
 inl:∀d il,lk cfg.inl d=some il->SoundI P d il
 keys:∀i,jY i cfg.xkeys=true->KeyP P i
 que:∀q,cfg.xque=some q->XqOK P q
 sorts:∀q,cfg.xsort=some q->XsOK P q
structure qz (C:Ctx) (cfg:jG):Prop where
 nt:C.nt=cfg.nt
 pin:∀id,id<10000000->C.pin id=none
def Quiet(P:Program)(C:Ctx)(o:Oper)(a:Act)(w:World)(s':St):Prop:=
 ∃v,(∀w',jM qV w w'->Oper.quietAt P o a (jM qV w) w' v)/\Sim P C s' (a.put o.dst v) w
def qah(P:Program)(C:Ctx)(o:Oper)(a:Act)(w:World)(s':St):Prop:=
 ∃v,(∀w',jM qV w w'->(execOp a.eval o).run P w' = .ok (.value v) w')/\Sim P C s' (a.put o.dst v) w
def qaG(P:Program)(C:Ctx)(o:Oper)(a:Act)(w:World)(s':St):Prop:=
 match(execOp a.eval o).run P w with
 |.ok (.value v) w'=>Sim P C s' (a.put o.dst v) w'
 |.ok .skip w'=>Sim P C s' (a.put o.dst undef) w'
 |.ok (.enter f args) w'=>Calls P f args w' λe w''=>∃v,e = .returned v/\Sim P C s' (a.put o.dst v) w''
 |_=>False
section
variable {P:Program} {C:Ctx}
theorem Quiet.goes{o:Oper}{a:Act}{w:World}{s':St}(h:Quiet P C o a w s'):qaG P C o a w s':=by
 obtain⟨v,h1,h2⟩:=h
 have:=h1 w (jM.refl _ _)
 unfold Oper.quietAt Oper.quietUpon at this
 unfold qaG
 split at this
 ·rename_i u w' e;rw[e];obtain⟨rfl,rfl⟩:=this;exact h2
 ·rename_i w' e;rw[e];obtain⟨rfl,rfl⟩:=this;exact h2
 ·rename_i f args w' e
  rw[e]
  obtain⟨rfl,hc⟩:=this
  exact hc.mono λe w'' ⟨he,hm⟩=>⟨v,he,h2.grow hm⟩
 ·exact this.elim
theorem qah.quiet{o:Oper}{a:Act}{w:World}{s':St}(h:qah P C o a w s'):Quiet P C o a w s':=by
 obtain⟨v,hrun,h⟩:=h
 refine⟨v,λw' hw=>?_,h⟩
 unfold Oper.quietAt
 rw[hrun w' hw]
 exact⟨rfl,rfl⟩
theorem qcn{o:Oper}{a:Act}{w:World}{s':St}{v:Value}(hrun:∀w',jM qV w w'->(execOp a.eval o).run P w' = .ok (.value v) w')(h:Sim P C s' (a.put o.dst v) w):qah P C o a w s':=
 ⟨v,hrun,h⟩
theorem qdW{w w':World}(hm:jM qV w w'){b:Nat}{o:Go.Obj}(h:w.heap[b]? = some o):w'.heap[b]? = some o:=by
 rw[hm.block b (Array.getElem?_eq_some_iff.1 h).1 (λh=>h)];exact h
theorem qm5{w:World}{H:FH}{Φ:Nat->qB}{os:Nat->Option Obj}{τ:Option Ty}(hτ:∀t,τ=some t->t.isFz=true){v:Value}{av:AV}(h:qgp τ v=some av):qh P C w H Φ os av v:=by
 unfold qgp at h
 split at h
 ·cases h;exact⟨rfl,_,rfl,rfl,rfl⟩
 ·cases h;exact⟨rfl,_,rfl,rfl,rfl⟩
 ·split at h
  ·rename_i tid e
   cases h
   have:=hτ _ rfl
   simp only[Ty.isFz,Bool.and_eq_true]at this
   exact⟨by simp[Ty.isFz,this.2],_,rfl,rfl,none,0,rfl,Nat.le_refl _,.inl rfl⟩
  ·cases h
 ·split at h
  ·cases h;exact⟨hτ _ rfl,[.pointer none],rfl,rfl,rfl⟩
  ·cases h
 ·cases h;trivial
 ·cases h;trivial
 ·cases h;trivial
 ·cases h
theorem qk{s:St}{a:Act}{w:World}{H:FH}{Φ:Nat->qB}(hs:qg P C s a w H Φ){τ:Option Ty}(hτ:∀t,τ=some t->t.isFz=true){x:Operand}{av:AV}(h:qI s τ x=some av):
  qh P C w H Φ s.obj av (a.eval x):=by
 cases x with
 |tmp t=>exact hs.ts t av h
 |const v=>exact qm5 hτ h
 |func f=>cases h;exact⟨#[],#[],rfl,rfl,rfl⟩
 |global g=>cases h
theorem jV{s:St}{a:Act}{w:World}{H:FH}{Φ:Nat->qB}(hs:qg P C s a w H Φ){τ:Nat->Option Ty}(hτ:∀i t,τ i=some t->t.isFz=true):
  ∀{l:List Operand} {i:Nat} {avs:List AV},qbV s τ l i=some avs->qaa (λav x=>qh P C w H Φ s.obj av (a.eval x)) avs l
 |[],_,_,h=>by cases h;trivial
 |x::r,i,avs,h=>by
  unfold qbV at h
  split at h
  ·cases h;exact⟨qk hs (hτ i) ‹_›,jV hs hτ ‹_›⟩
  ·cases h
theorem qv:∀t:Ty,(none:Option Ty)=some t->t.isFz=true:=by intro t h;cases h
theorem qu.fz{cfg:jG}(h:qu P cfg)(t:Nat):∀τ,lk cfg.ty t=some τ->τ.isFz=true:=λτ e=>(h.ty t τ e).2
theorem qh.int{w:World}{H:FH}{Φ os}{k:IntKind}{n:Int}{v:Value}(h:qh P C w H Φ os (.val (.int k) n) v):v = .int k n:=by
 obtain⟨_,cs,rfl,rfl,_⟩:=h;rfl
theorem qh.bool{w:World}{H:FH}{Φ os}{b:Bool}{v:Value}(h:qh P C w H Φ os (.val .bool b) v):v = .bool b:=by
 obtain⟨_,cs,rfl,rfl,_⟩:=h;rfl
theorem qh.mk_int(w:World)(H:FH)(Φ os)(k:IntKind)(n:Int):qh P C w H Φ os (.val (.int k) n) (.int k n):=⟨rfl,[.int k n],rfl,rfl,rfl⟩
theorem qh.mk_bool(w:World)(H:FH)(Φ os)(b:Bool):qh P C w H Φ os (.val .bool b) (.bool b):=⟨rfl,[.bool b],rfl,rfl,rfl⟩
variable {cfg:jG}
theorem qp{s:St}{a:Act}{w:World}{H:FH}{Φ:Nat->qB}{o:Oper}(hs:qg P C s a w H Φ)(hC:qz C cfg)(hd:qF cfg.nt o.dst=true){av:AV}{v:Value}(hv:qh P C w H Φ s.obj av v)
  (hrun:∀w',jM qV w w'->(execOp a.eval o).run P w' = .ok (.value v) w'):qah P C o a w (s.setDst o.dst av):=
 qcn hrun ⟨H,Φ,hs.setDst (by rw[hC.nt];exact hd) hv⟩
variable {R:Type} {r:R} {s:St} {a:Act} {w:World} {H:FH} {Φ:Nat->qB} {dst:Option Nat} {ty:TypeId} {pos:String} {after:Array Edge} {guard:Option (Nat×Bool)} {k:St->Option R}
theorem op_move(hcfg:qu P cfg)(hC:qz C cfg){x:Operand}(hs:qg P C s a w H Φ)(hd:qF cfg.nt dst=true)(h:qG cfg ⟨dst,.move x,ty,pos,after,guard⟩ s k=some r):
  ∃s',k s'=some r/\qah P C ⟨dst,.move x,ty,pos,after,guard⟩ a w s':=by
 simp only[qG]at h
 split at h
 ·rename_i av he
  exact⟨_,h,qp hs hC hd (qk hs (hcfg.fz ty) he) (λw' _=>rfl)⟩
 ·cases h
theorem op_pick(hcfg:qu P cfg)(hC:qz C cfg){c x y:Operand}(hs:qg P C s a w H Φ)(hd:qF cfg.nt dst=true)(h:qG cfg ⟨dst,.pick c x y,ty,pos,after,guard⟩ s k=some r):
  ∃s',k s'=some r/\qah P C ⟨dst,.pick c x y,ty,pos,after,guard⟩ a w s':=by
 simp only[qG]at h
 split at h
 ·rename_i b av bv h1 h2 h3
  have hb:=(qk hs qv h1).bool
  have r2:=qk hs (hcfg.fz ty) h2
  have r3:=qk hs (hcfg.fz ty) h3
  cases b with
  |true=>exact⟨_,h,qp hs hC hd r2 (λw' _=>by simp[execOp,hb,asBool])⟩
  |false=>exact⟨_,h,qp hs hC hd r3 (λw' _=>by simp[execOp,hb,asBool])⟩
 ·cases h
theorem op_unOp(_hcfg:qu P cfg)(hC:qz C cfg){op:UnOp}{T:TypeId}{x:Operand}(hs:qg P C s a w H Φ)(hd:qF cfg.nt dst=true)(h:qG cfg ⟨dst,.unOp op T x,ty,pos,after,guard⟩ s k=some r):
  ∃s',k s'=some r/\qah P C ⟨dst,.unOp op T x,ty,pos,after,guard⟩ a w s':=by
 simp only[qG]at h
 split at h
 ·rename_i av he
  have hr:=qk hs qv he
  unfold unK at h
  split at h
  ·have hv:=hr.bool
   exact⟨_,h,qp hs hC hd (qh.mk_bool w H Φ s.obj _) (λw' _=>by simp[execOp,hv,Op.unary])⟩
  ·have hv:=hr.int
   exact⟨_,h,qp hs hC hd (qh.mk_int w H Φ s.obj _ _) (λw' _=>by simp[execOp,hv,Op.unary,Op.intArith])⟩
  ·cases h
 ·cases h
theorem qmC(hcfg:qu P cfg)(hC:qz C cfg){src dt:TypeId}{x:Operand}(hs:qg P C s a w H Φ)(hd:qF cfg.nt dst=true)(h:qG cfg ⟨dst,.convert src dt x,ty,pos,after,guard⟩ s k=some r):
  ∃s',k s'=some r/\qah P C ⟨dst,.convert src dt x,ty,pos,after,guard⟩ a w s':=by
 simp only[qG]at h
 split at h
 case h_2=>cases h
 rename_i k1 j k2 n h1 h2 h3
 have v:=(qk hs qv h3).int
 have e1:=(hcfg.ty src _ h1).1.int
 have e2:=(hcfg.ty dt _ h2).1.int
 have hc:∀w':World,(convert src dt (.int k2 n)).run P w' = .ok (.int j (j.wrap n)) w':=λw'=>by simp[convert,run_underlying e1,run_underlying e2,Conv.intToInt]
 exact⟨_,h,qp hs hC hd (qh.mk_int w H Φ s.obj _ _) (λw' _=>by simp[execOp,v,hc])⟩
theorem qi6{k:IntKind}{w:World}{H:FH}:∀{l:List Int} {cs:List Value} {fp:List Nat},qe (qm P (.int k) w H) l cs fp->cs=l.map (Value.int k)
 |[],_,_,h=>h.1
 |_::_,_,_,⟨_,_,_,_,e1,_,h1,h2⟩=>by rw[e1,h1.1,qi6 h2];rfl
theorem qog{u:TypeId}{k:IntKind}(h:qN P u (.int k)):∃i,P.info? u=some i/\P.cellsOf u=1:=by
 obtain⟨i,hi,hs,_⟩:=h.info
 exact⟨i,hi,by simp[Program.cellsOf,hi,hs,Ty.size]⟩
theorem qjA{u:TypeId}{k:IntKind}(w:World)(d:Nat)(h:qN P u (.int k))(a b:List Int):∀(is:List Nat),(∀i∈is,i<a.length/\i<b.length)->
  (Op.eqItems (d+1) u 1 (a.map (Value.int k)).toArray (b.map (Value.int k)).toArray is).run P w = .ok (is.all λi=>a.getD i 0==b.getD i 0) w
 |[],_=>by simp[Op.eqItems]
 |i::is,hi=>by
  obtain⟨ha,hb⟩:=hi i List.mem_cons_self
  have hp:P.plainKey u=true:=by simp[Program.plainKey,h.int]
  have pa:(part u (a.map (Value.int k)).toArray (i*1)).run P w = .ok (.int k (a.getD i 0)) w:=run_part_plain w hp (by simp[ha])
  have pb:(part u (b.map (Value.int k)).toArray (i*1)).run P w = .ok (.int k (b.getD i 0)) w:=run_part_plain w hp (by simp[hb])
  have ih:=qjA w d h a b is λj hj=>hi j (List.mem_cons_of_mem _ hj)
  have pe:=run_equalIn_int (P:=P) w d u k k (a.getD i 0) (b.getD i 0) h.int
  simp only[Op.eqItems,Sem.run_bind,pa,pb,pe,Result.andThen_ok,List.all_cons]
  cases hc:a.getD i 0==b.getD i 0 with
  |false=>simp
  |true=>simpa using ih
theorem all_eqL:∀(n:Nat) (a b:List Int),a.length=n->b.length=n->((List.range n).all λi=>a.getD i 0==b.getD i 0)=eqL a b:=by
 intro n a b ha hb
 rw[Bool.eq_iff_iff,List.all_eq_true]
 unfold eqL
 rw[beq_iff_eq]
 constructor
 ·intro h
  refine List.ext_getElem (by omega) λi h1 h2=>?_
  have:=h i (List.mem_range.2 (by omega))
  simpa[List.getD_eq_getElem?_getD,h1,h2]using this
 ·intro h i _
  rw[h]
  simp
theorem qeB{t:TypeId}{n:Nat}{k:IntKind}(w:World)(h:qN P t (.arr n (.int k)))(a b:List Int)(ha:a.length=n)(hb:b.length=n):
  (Op.equal t (.agg (a.map (Value.int k)).toArray) (.agg (b.map (Value.int k)).toArray)).run P w = .ok (eqL a b) w:=by
 obtain⟨u,hu,he⟩:=h.arr
 obtain⟨i,hi,hc⟩:=qog he
 have e:=run_equalIn_array w 9999 (a.map (Value.int k)).toArray (b.map (Value.int k)).toArray hu hi
 have e2:=qjA w 9998 he a b (List.range n) λj hj=>by
  have:=List.mem_range.1 hj
  omega
 rw[hc,e2,all_eqL n a b ha hb]at e
 exact e
theorem qmT{t:TypeId}{n:Nat}{k:IntKind}(h:qN P t (.arr n (.int k))):P.eqGuardType P.depth t=false:=by
 obtain⟨u,hu,he⟩:=h.arr
 obtain⟨m,hm⟩:∃m,P.depth=m+2:=⟨_,rfl⟩
 rw[hm]
 simp[Program.eqGuardType,hu,he.int]
theorem qlP{w w0:World}{H:FH}(d:Nat):∀(τ:Ty),qdh τ=true->∀(l:List Field) (o:Nat),j5 P τ l o->(∀f∈l,f.name≠ "_")->∀(x y:τ.den) (cs cs':List Value) (fp fp':List Nat) (xs ys:Array Value) (r r':List Value),qm P τ w0 H x cs fp->qm P τ w0 H y cs' fp'->xs.toList.drop o=cs++r->ys.toList.drop o=cs'++r'->
  (Op.eqFields (d+1) xs ys l).run P w = .ok (eqF τ x y) w:=by
 have at0:∀(xs:Array Value) (o:Nat) (v:Value) (r:List Value),xs.toList.drop o=v::r->xs[o]? = some v:=by
  intro xs o v r h
  have h2:(xs.toList.drop o)[0]? = some v:=by rw[h];rfl
  rw[List.getElem?_drop,Nat.add_zero,Array.getElem?_toList]at h2
  exact h2
 have one:∀(τ:Ty),((∃k,τ = .int k)\/τ = .bool)->∀(f:Field) (o:Nat) (t:List Field),f.offset=o->qN P f.type τ->f.name≠ "_" ->∀(x y:τ.den) (cs cs':List Value) (fp fp':List Nat) (xs ys:Array Value) (r r':List Value),qm P τ w0 H x cs fp->qm P τ w0 H y cs' fp'->xs.toList.drop o=cs++r->ys.toList.drop o=cs'++r'->
   (Op.eqFields (d+1) xs ys (f::t)).run P w=(if eqF τ x y then(Op.eqFields (d+1) xs ys t).run P w else .ok false w)/\xs.toList.drop (o+1)=r/\ys.toList.drop (o+1)=r':=by
  intro τ hτ f o t ho hty hn x y cs cs' fp fp' xs ys r r' hx hy hxs hys
  rcases hτ with⟨k,rfl⟩|rfl
  ·obtain⟨rfl,_⟩:=hx
   obtain⟨rfl,_⟩:=hy
   have hp:P.plainKey f.type=true:=by simp[Program.plainKey,hty.int]
   have pa:(part f.type xs f.offset).run P w = .ok (.int k x) w:=run_part_plain w hp (by rw[ho];exact at0 xs o _ r hxs)
   have pb:(part f.type ys f.offset).run P w = .ok (.int k y) w:=run_part_plain w hp (by rw[ho];exact at0 ys o _ r' hys)
   have pe:=run_equalIn_int (P:=P) w d f.type k k x y hty.int
   have e:eqF (.int k) x y=(@BEq.beq Int _ x y):=rfl
   refine⟨?_,by rw[<-List.drop_drop,hxs];rfl,by rw[<-List.drop_drop,hys];rfl⟩
   simp only[Op.eqFields,hn,ne_eq,not_false_eq_true,if_true,Sem.run_bind,pa,pb,pe,Result.andThen_ok,e]
   cases @BEq.beq Int _ x y<;>simp
  ·obtain⟨rfl,_⟩:=hx
   obtain⟨rfl,_⟩:=hy
   have hp:P.plainKey f.type=true:=by simp[Program.plainKey,hty.bool]
   have pa:(part f.type xs f.offset).run P w = .ok (.bool x) w:=run_part_plain w hp (by rw[ho];exact at0 xs o _ r hxs)
   have pb:(part f.type ys f.offset).run P w = .ok (.bool y) w:=run_part_plain w hp (by rw[ho];exact at0 ys o _ r' hys)
   have pe:=run_equalIn_bool' (P:=P) w d f.type x y hty.bool
   have e:eqF .bool x y=(@BEq.beq Bool _ x y):=rfl
   refine⟨?_,by rw[<-List.drop_drop,hxs];rfl,by rw[<-List.drop_drop,hys];rfl⟩
   simp only[Op.eqFields,hn,ne_eq,not_false_eq_true,if_true,Sem.run_bind,pa,pb,pe,Result.andThen_ok,e]
   cases @BEq.beq Bool _ x y<;>simp
 have last:∀(τ:Ty),((∃k,τ = .int k)\/τ = .bool)->∀(l:List Field) (o:Nat),j5 P τ l o->(∀f∈l,f.name≠ "_")->∃f,l=[f]/\f.offset=o/\qN P f.type τ/\f.name≠ "_" :=by
  intro τ hτ l o hl hn
  rcases hτ with⟨k,rfl⟩|rfl
  all_goals
   unfold j5 at hl
   simp only[tyB]at hl
   split at hl
   ·rename_i f
    rw[Bool.and_eq_true]at hl
    exact⟨f,rfl,Nat.eq_of_beq_eq_true hl.1,hl.2,hn f List.mem_cons_self⟩
   ·cases hl
 intro τ
 induction τ with
 |int k=>
  intro _ l o hl hn x y cs cs' fp fp' xs ys r r' hx hy hxs hys
  obtain⟨f,rfl,ho,ht,hf⟩:=last _ (.inl ⟨k,rfl⟩) l o hl hn
  rw[(one _ (.inl ⟨k,rfl⟩) f o [] ho ht hf x y cs cs' fp fp' xs ys r r' hx hy hxs hys).1]
  cases eqF (.int k) x y<;>simp[Op.eqFields]
 |bool=>
  intro _ l o hl hn x y cs cs' fp fp' xs ys r r' hx hy hxs hys
  obtain⟨f,rfl,ho,ht,hf⟩:=last _ (.inr rfl) l o hl hn
  rw[(one _ (.inr rfl) f o [] ho ht hf x y cs cs' fp fp' xs ys r r' hx hy hxs hys).1]
  cases eqF .bool x y<;>simp[Op.eqFields]
 |pair a b _ ihb=>
  intro hfl l o hl hn x y cs cs' fp fp' xs ys r r' hx hy hxs hys
  have ha:((∃k,a = .int k)\/a = .bool)/\qdh b=true:=by
   cases a<;>simp only[qdh]at hfl<;>first|(cases hfl;done)|exact⟨.inl ⟨_,rfl⟩,hfl⟩|exact⟨.inr rfl,hfl⟩
  obtain⟨ha,hb⟩:=ha
  have hs:a.size=1:=by rcases ha with⟨k,rfl⟩|rfl<;>rfl
  unfold j5 at hl
  simp only[tyB]at hl
  split at hl
  case h_2=>cases hl
  rename_i f g t
  rw[Bool.and_eq_true,Bool.and_eq_true]at hl
  obtain⟨⟨h1,h2⟩,h3⟩:=hl
  obtain⟨c1,c2,f1,f2,rfl,_,hx1,hx2⟩:=hx
  obtain⟨c1',c2',f1',f2',rfl,_,hy1,hy2⟩:=hy
  rw[List.append_assoc]at hxs hys
  obtain⟨e1,e2,e3⟩:=one a ha f o (g::t) (Nat.eq_of_beq_eq_true h1) h2 (hn f List.mem_cons_self) x.1 y.1 c1 c1' f1 f1' xs ys _ _ hx1 hy1 hxs hys
  rw[hs]at h3
  have ih:=ihb hb (g::t) (o+1) h3 (λf hf=>hn f (List.mem_cons_of_mem _ hf)) x.2 y.2 c2 c2' f2 f2' xs ys r r' hx2 hy2 e2 e3
  rw[e1,ih]
  show _=Result.ok (eqF a x.1 y.1&&eqF b x.2 y.2) w
  cases eqF a x.1 y.1<;>simp
 |_=>intro h;cases h
theorem qmU(τ:Ty)(hfl:qdh τ=true)(m:Nat):∀(l:List Field) (o:Nat),j5 P τ l o->∀f∈l,P.eqGuardType (m+1) f.type=false:=by
 have last:∀(τ:Ty),((∃k,τ = .int k)\/τ = .bool)->∀(f:Field),qN P f.type τ->P.eqGuardType (m+1) f.type=false:=by
  intro τ hτ f hf
  rcases hτ with⟨k,rfl⟩|rfl
  ·simp[Program.eqGuardType,hf.int]
  ·simp[Program.eqGuardType,hf.bool]
 induction τ with
 |int k=>
  intro l o hl f hf
  unfold j5 at hl
  simp only[tyB]at hl
  split at hl
  ·rw[Bool.and_eq_true]at hl
   obtain rfl:=List.mem_singleton.1 hf
   exact last _ (.inl ⟨k,rfl⟩) _ hl.2
  ·cases hl
 |bool=>
  intro l o hl f hf
  unfold j5 at hl
  simp only[tyB]at hl
  split at hl
  ·rw[Bool.and_eq_true]at hl
   obtain rfl:=List.mem_singleton.1 hf
   exact last _ (.inr rfl) _ hl.2
  ·cases hl
 |pair a b _ ihb=>
  intro l o hl f hf
  have ha:((∃k,a = .int k)\/a = .bool)/\qdh b=true:=by
   cases a<;>simp only[qdh]at hfl<;>first|(cases hfl;done)|exact⟨.inl ⟨_,rfl⟩,hfl⟩|exact⟨.inr rfl,hfl⟩
  unfold j5 at hl
  simp only[tyB]at hl
  split at hl
  case h_2=>cases hl
  rw[Bool.and_eq_true,Bool.and_eq_true]at hl
  rcases List.mem_cons.1 hf with rfl|hf
  ·exact last a ha.1 _ hl.1.2
  ·exact ihb ha.2 _ _ hl.2 f hf
 |_=>cases hfl
theorem qia{t:TypeId}{τ:Ty}(hfl:qdh τ=true)(w:World){w0:World}{H:FH}(h:qN P t (.str τ)){x y:τ.den}{cs cs':List Value}(hx:qm P τ w0 H x cs [])(hy:qm P τ w0 H y cs' []):
  (Op.equal t (.agg cs.toArray) (.agg cs'.toArray)).run P w = .ok (eqF τ x y) w/\P.eqGuardType P.depth t=false:=by
 obtain⟨fs,hu,hfo,hp,hn⟩:=h.plain
 have hff:P.fieldsOf t=fs:=by simp[Program.fieldsOf,hu]
 constructor
 ·have e:=run_equalIn_struct (P:=P) w 9999 t cs.toArray cs'.toArray (by rw[hff];exact hu) hp
  rw[hff]at e
  have:=qlP (P:=P) (w:=w) (w0:=w0) (H:=H) 9998 τ hfl fs.toList 0 hfo hn x y cs cs' [] [] cs.toArray cs'.toArray [] [] hx hy (by simp) (by simp)
  rw[this]at e
  exact e
 ·obtain⟨m,hm⟩:∃m,P.depth=m+2:=⟨_,rfl⟩
  rw[hm]
  have hg:=qmU (P:=P) τ hfl m fs.toList 0 hfo
  simp only[Program.eqGuardType,hu]
  rw[Array.any_eq_false']
  intro f hf
  have:=hg f (by simpa using hf)
  simp[Program.eqGuardType]at this ⊢
  intro _
  exact this
theorem qh.ints{w:World}{H:FH}{Φ os}{n:Nat}{k:IntKind}{l:List Int}{v:Value}(h:qh P C w H Φ os (.val (.arr n (.int k)) l) v):v = .agg (l.map (Value.int k)).toArray/\l.length=n:=by
 obtain⟨_,cs,rfl,hl,hc⟩:=h
 exact⟨by rw[qi6 hc];rfl,hl⟩
theorem qn3(hcfg:qu P cfg)(hC:qz C cfg){op:BinOp}{T T':TypeId}{x y:Operand}(hs:qg P C s a w H Φ)(hd:qF cfg.nt dst=true) 
  (h:(match qI s none x,qI s none y with
   |some x,some y=>binK op (lk cfg.ty T) x y λv=>k (s.setDst dst v)
   |_,_=>none)=some r):
  ∃s',k s'=some r/\qah P C ⟨dst,.binOp op T x y T',ty,pos,after,guard⟩ a w s':=by
 split at h
 ·rename_i av bv h1 h2
  have r1:=qk hs qv h1
  have r2:=qk hs qv h2
  unfold binK at h
  split at h
  ·rename_i i m j n
   have v1:=r1.int
   have v2:=r2.int
   split at h
   ·unfold negK at h
    split at h
    ·cases h
    ·rename_i hn
     exact⟨_,h,qp hs hC hd (qh.mk_int w H Φ s.obj _ _) (λw' _=>by simp[execOp,v1,v2,eqGuard,binOp,Op.shift,hn,shlI])⟩
   ·unfold negK at h
    split at h
    ·cases h
    ·rename_i hn
     exact⟨_,h,qp hs hC hd (qh.mk_int w H Φ s.obj _ _) (λw' _=>by simp[execOp,v1,v2,eqGuard,binOp,Op.shift,hn,shrI])⟩
   ·rename_i n1 n2
    cases hij:(i==j)with
    |false=>rw[hij]at h;cases h
    |true=>
     rw[hij,cond_true]at h
     have hij':i=j:=by simpa using hij
     subst hij'
     cases op
     case shl=>exact absurd rfl n1
     case shr=>exact absurd rfl n2
     case quo=>
      simp only[nzK]at h
      split at h
      ·cases h
      ·rename_i hn
       exact⟨_,h,qp hs hC hd (qh.mk_int w H Φ s.obj _ _) (λw' _=>by simp[execOp,v1,v2,eqGuard,binOp,Op.intDiv,hn])⟩
     case rem=>
      simp only[nzK]at h
      split at h
      ·cases h
      ·rename_i hn
       exact⟨_,h,qp hs hC hd (qh.mk_int w H Φ s.obj _ _) (λw' _=>by simp[execOp,v1,v2,eqGuard,binOp,Op.intDiv,hn])⟩
     case add=>exact⟨_,h,qp hs hC hd (qh.mk_int w H Φ s.obj _ _) (λw' _=>by simp[execOp,v1,v2,eqGuard,binOp,Op.intArith])⟩
     case sub=>exact⟨_,h,qp hs hC hd (qh.mk_int w H Φ s.obj _ _) (λw' _=>by simp[execOp,v1,v2,eqGuard,binOp,Op.intArith])⟩
     case mul=>exact⟨_,h,qp hs hC hd (qh.mk_int w H Φ s.obj _ _) (λw' _=>by simp[execOp,v1,v2,eqGuard,binOp,Op.intArith])⟩
     case and=>exact⟨_,h,qp hs hC hd (qh.mk_int w H Φ s.obj _ _) (λw' _=>by simp[execOp,v1,v2,eqGuard,binOp,Op.intBits,qft])⟩
     case or=>exact⟨_,h,qp hs hC hd (qh.mk_int w H Φ s.obj _ _) (λw' _=>by simp[execOp,v1,v2,eqGuard,binOp,Op.intBits,qft])⟩
     case xor=>exact⟨_,h,qp hs hC hd (qh.mk_int w H Φ s.obj _ _) (λw' _=>by simp[execOp,v1,v2,eqGuard,binOp,Op.intBits,qft])⟩
     case andNot=>exact⟨_,h,qp hs hC hd (qh.mk_int w H Φ s.obj _ _) (λw' _=>by simp[execOp,v1,v2,eqGuard,binOp,Op.intBits,qft])⟩
     all_goals exact⟨_,h,qp hs hC hd (qh.mk_bool w H Φ s.obj _) (λw' _=>by simp[execOp,v1,v2,eqGuard,binOp,Op.intCmp])⟩
  ·have v1:=r1.bool
   have v2:=r2.bool
   cases hT:decide (lk cfg.ty T=some .bool)with
   |false=>rw[hT]at h;cases h
   |true=>
    rw[hT,cond_true]at h
    have hb:=(hcfg.ty T .bool (of_decide_eq_true hT)).1.bool
    split at h
    ·exact⟨_,h,qp hs hC hd (qh.mk_bool w H Φ s.obj _) (λw' _=>by simp[execOp,v1,v2,eqGuard,binOp,run_equal_bool w' T _ _ hb])⟩
    ·exact⟨_,h,qp hs hC hd (qh.mk_bool w H Φ s.obj _) (λw' _=>by simp[execOp,v1,v2,eqGuard,binOp,run_equal_bool w' T _ _ hb])⟩
    ·cases h
  ·rename_i n i l m j l'
   obtain⟨v1,len1⟩:=r1.ints
   obtain⟨v2,len2⟩:=r2.ints
   cases hT:decide (lk cfg.ty T=some (.arr n (.int i)))&&Nat.beq n m&&(i==j)with
   |false=>rw[hT]at h;cases h
   |true=>
    rw[hT,cond_true]at h
    simp only[Bool.and_eq_true]at hT
    obtain rfl:n=m:=Nat.eq_of_beq_eq_true hT.1.2
    have hij:i=j:=by simpa using hT.2
    subst hij
    have hty:=(hcfg.ty T _ (of_decide_eq_true hT.1.1)).1
    have hg:=qmT hty
    split at h
    ·exact⟨_,h,qp hs hC hd (qh.mk_bool w H Φ s.obj _) (λw' _=>by simp[execOp,v1,v2,run_eqGuard_agg w' _ T x y _ _ hg,binOp,qeB w' hty l l' len1 len2])⟩
    ·exact⟨_,h,qp hs hC hd (qh.mk_bool w H Φ s.obj _) (λw' _=>by simp[execOp,v1,v2,run_eqGuard_agg w' _ T x y _ _ hg,binOp,qeB w' hty l l' len1 len2])⟩
    ·cases h
  ·rename_i τ x1 σ y1
   cases hT:decide (lk cfg.ty T=some (.str τ))&&qdh τ with
   |false=>rw[hT]at h;cases h
   |true=>
    rw[hT,cond_true]at h
    rw[Bool.and_eq_true]at hT
    rw[qi]at h
    replace h:=Option.bind_eq_some_iff.1 h
    obtain⟨y2,hy2,h⟩:=h
    obtain⟨e1,e2⟩:=qf hy2
    subst e1
    simp only at e2
    subst e2
    have hty:=(hcfg.ty T _ (of_decide_eq_true hT.1)).1
    obtain⟨_,cs1,v1,p1⟩:=r1
    obtain⟨_,cs2,v2,p2⟩:=r2
    have v1:a.eval x = .agg cs1.toArray:=v1
    have v2:a.eval y = .agg cs2.toArray:=v2
    have hq:∀w':World,(Op.equal T (.agg cs1.toArray) (.agg cs2.toArray)).run P w' = .ok (eqF σ x1 y2) w'/\P.eqGuardType P.depth T=false:=λw'=>
     qia hT.2 w' hty p1 p2
    split at h
    ·exact⟨_,h,qp hs hC hd (qh.mk_bool w H Φ s.obj _) (λw' _=>by simp[execOp,v1,v2,run_eqGuard_agg w' _ T x y _ _ (hq w').2,binOp,(hq w').1])⟩
    ·exact⟨_,h,qp hs hC hd (qh.mk_bool w H Φ s.obj _) (λw' _=>by simp[execOp,v1,v2,run_eqGuard_agg w' _ T x y _ _ (hq w').2,binOp,(hq w').1])⟩
    ·cases h
  ·cases h
 ·cases h
theorem qmB(_hcfg:qu P cfg)(hC:qz C cfg){x:Operand}{i:Nat}(hs:qg P C s a w H Φ)(hd:qF cfg.nt dst=true)(h:qG cfg ⟨dst,.extract x i,ty,pos,after,guard⟩ s k=some r):
  ∃s',k s'=some r/\qah P C ⟨dst,.extract x i,ty,pos,after,guard⟩ a w s':=by
 have key:∀(av:AV) (i:Nat) (b:AV) (us:List Value),qh P C w H Φ s.obj av (.tuple us.toArray)->qg1 av i=some b->∃u,us[i]? = some u/\qh P C w H Φ s.obj b u:=by
  intro av
  induction av with
  |cons a1 a2 _ ih2=>
   intro i b us hr he
   obtain⟨u,us',h1,h2,h3⟩:=hr
   obtain rfl:us=u::us':=by simpa using h1
   match i with
   |0=>cases he;exact⟨u,rfl,h2⟩
   |i+1=>exact ih2 i b us' h3 he
  |_=>intro i b us _ he;cases i<;>cases he
 simp only[qG]at h
 split at h
 ·rename_i av he
  split at h
  ·rename_i b hb
   have hr:=qk hs qv he
   obtain⟨us,hus⟩:∃us:List Value,a.eval x = .tuple us.toArray:=by
    cases av<;>first|(cases i<;>cases hb;done)|skip
    obtain⟨u,us,h1,_⟩:=hr
    exact⟨_,h1⟩
   rw[hus]at hr
   obtain⟨u,hu,hr'⟩:=key av i b us hr hb
   exact⟨_,h,qp hs hC hd hr' (λw' _=>by simp[execOp,hus,Instr.extract,hu])⟩
  ·cases h
 ·cases h
theorem qlq(_hcfg:qu P cfg)(hC:qz C cfg){f:Nat}{first caps:Array Operand}(hs:qg P C s a w H Φ)(hd:qF cfg.nt dst=true)(h:qG cfg ⟨dst,.makeFunc (.func f) first caps,ty,pos,after,guard⟩ s k=some r):
  ∃s',k s'=some r/\qah P C ⟨dst,.makeFunc (.func f) first caps,ty,pos,after,guard⟩ a w s':=by
 have key:∀(avs:List AV) (l:List Operand),qaa (λav x=>qh P C w H Φ s.obj av (a.eval x)) avs l->qh P C w H Φ s.obj (AV.ofList avs) (.tuple (l.map a.eval).toArray):=by
  intro avs
  induction avs with
  |nil=>intro l hh;cases l<;>first|rfl|exact hh.elim
  |cons av avs ih=>intro l hh;cases l<;>first|exact hh.elim|exact⟨_,_,rfl,hh.1,ih _ hh.2⟩
 simp only[qG]at h
 split at h
 ·rename_i l1 l2 h1 h2
  have r1:=key _ _ (jV hs (λ_=>qv) h1)
  have r2:=key _ _ (jV hs (λ_=>qv) h2)
  refine⟨_,h,qp hs hC hd (v:=.func (.func f) (first.map a.eval) (caps.map a.eval)) ⟨_,_,rfl,?_,?_⟩ (λw' _=>by simp[execOp,Instr.makeFunc])⟩
  ·rw[<-Array.toArray_toList (xs:=first.map a.eval),Array.toList_map];exact r1
  ·rw[<-Array.toArray_toList (xs:=caps.map a.eval),Array.toList_map];exact r2
 ·cases h
end
end Go.Vi
