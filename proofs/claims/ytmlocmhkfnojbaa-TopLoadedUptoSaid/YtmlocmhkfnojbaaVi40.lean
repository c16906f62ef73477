/- The abstract interpreter 'Vi', fortieth part: the last step for a function with ranges over functions. No condition beyond those typed in each theorem. -/
import Derived.Test.YtmlocmhkfnojbaaVi39
namespace Go.Vi
def qab:Code->List Code
 |.seq a b=>qab a++qab b
 |.cond _ a b=>qab a++qab b
 |.block _ c=>qab c
 |.loop c=>qab c
 |.rangeFunc g ps a b=>[.rangeFunc g ps a b]
 |_=>[]
def asR:Code->Code
 |.rangeFunc _ _ a _=>a
 |_=>.skip
def bdR:Code->Code
 |.rangeFunc _ _ _ b=>b
 |_=>.skip
def psR:Code->List Nat
 |.rangeFunc _ ps _ _=>ps.toList
 |_=>[]
def qja(cfg:jG)(b:Code):Prop:=qax cfg (asR b)/\qax cfg (bdR b)/\∀key li,qat (asR b)=some key->lk cfg.rloops key=some li->qkW cfg li (psR b) (asR b) (bdR b)
theorem qig{cfg:jG}{b:Code}{key:Nat}{li:qdJ}{pl:List Nat}(h1:qat (asR b)=some key)(h2:lk cfg.rloops key=some li)(h3:psR b=pl)(ha:qj (asR b)=[])(hb:∀x∈qj (bdR b),qcZ cfg x)
  (hn:∀n d,li.g n [] d=some (.norm,qbK li.ps d)) (hc:∀n x r d,li.g n (x::r) d=run cfg n (asR b) (qgh li pl d x) (qhX (qj1 cfg li n (bdR b) r d) qlQ)):qja cfg b:=by
 refine⟨qbh (qT ha),qbh hb,?_⟩
 intro key' li' e1 e2
 rw[h1]at e1
 cases e1
 rw[h2]at e2
 cases e2
 rw[h3]
 exact⟨hn,hc⟩
theorem qcm{cfg:jG}:∀{c:Code},(∀b∈qab c,qja cfg b)->qbS cfg c
 |.seq _a _b,h=>⟨qcm λx hx=>h x (List.mem_append.2 (.inl hx)),qcm λx hx=>h x (List.mem_append.2 (.inr hx))⟩
 |.cond _ _a _b,h=>⟨qcm λx hx=>h x (List.mem_append.2 (.inl hx)),qcm λx hx=>h x (List.mem_append.2 (.inr hx))⟩
 |.block _ c,h=>qcm (c:=c) h
 |.loop c,h=>qcm (c:=c) h
 |.rangeFunc _ _ _ _,h=>h _ (List.mem_singleton.2 rfl)
 |.skip,_=>trivial
 |.region _ _ _,_=>trivial
 |.exit _,_=>trivial
 |.scope _,_=>trivial
 |.label _,_=>trivial
 |.goto _,_=>trivial
 |.ret,_=>trivial
 |.refuse _,_=>trivial
def qhR(P:Program)(l:List (Nat×Iter)):Prop:=∀x∈l,qg9 P x.1 x.2
theorem itNil{P:Program}:qhR P []:=by intro x hx;cases hx
theorem itCons{P:Program}{f:Nat}{p:Iter}{l:List (Nat×Iter)}(h:qg9 P f p)(hl:qhR P l):qhR P ((f,p)::l):=by
 intro x hx
 rcases List.mem_cons.1 hx with rfl|hx
 ·exact h
 ·exact hl x hx
def qkX(P:Program)(l:List (Nat×qeV)):Prop:=∀x∈l,qW P x.1/\qeU P x.1 x.2
theorem mkNil{P:Program}:qkX P []:=by intro x hx;cases hx
theorem qmJ{P:Program}{f:Nat}{p:qeV}{l:List (Nat×qeV)}(h:qW P f/\qeU P f p)(hl:qkX P l):qkX P ((f,p)::l):=by
 intro x hx
 rcases List.mem_cons.1 hx with rfl|hx
 ·exact h
 ·exact hl x hx
theorem mk_ok{P:Program}{l:List (Nat×qeV)}(h:qkX P l):∀f m,lk l f=some m->qW P f/\qeU P f m:=λf m hl=>h (f,m) (qbC hl)
theorem qlK{P:Program}{cfg:jG}(hm:P.follows .mixedOrders=true)(hcfg:qu P cfg)(hit:qhR P cfg.iters){f:FuncId}{fn:Func}(hf:P.funcs[f]? = some fn)(hb:fn.body.isSome=true)(hnt:fn.ntmps=cfg.nt)(hname:(fn.name == "runtime.NumGoroutine")=false)
  {p:jE} (hps:Nat.ble p.ps.length cfg.nt=true) (hl:∀b∈qj (body fn),qcZ cfg b) (hr:∀b∈qab (body fn),qja cfg b) (hd:qdw cfg (body fn)=true) (hg:∀d y,p.g d=some y->∃n,jC cfg n fn (body fn) p.ps p.rs d=some y):qZ P f p:=by
 have hb2:fn.body=some (body fn):=by
  unfold body
  cases h:fn.body with
  |none=>rw[h]at hb;cases hb
  |some c=>rfl
 exact⟨qY hf hb2 hname,qob hm hcfg (λf it h=>hit (f,it) (qbC h)) hf hb2 hnt (qbh hl) (qcm hr) hd (Nat.le_of_ble_eq_true hps) hg⟩
end Go.Vi
