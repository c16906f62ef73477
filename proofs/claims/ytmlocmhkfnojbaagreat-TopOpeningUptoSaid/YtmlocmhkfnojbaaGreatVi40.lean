/- The abstract interpreter 'Vi', fortieth part: the last step for a function with ranges over functions. No condition beyond those typed in each theorem. -/
import Derived.Test.YtmlocmhkfnojbaaGreatVi39
namespace Go.Vi
def jI:Code->List Code
 |.seq a b=>jI a++jI b
 |.cond _ a b=>jI a++jI b
 |.block _ c=>jI c
 |.loop c=>jI c
 |.rangeFunc g ps a b=>[.rangeFunc g ps a b]
 |_=>[]
def DI:Code->Code
 |.rangeFunc _ _ a _=>a
 |_=>.skip
def Jr:Code->Code
 |.rangeFunc _ _ _ b=>b
 |_=>.skip
def psR:Code->List Nat
 |.rangeFunc _ ps _ _=>ps.toList
 |_=>[]
def qjH(aa:jB)(b:Code):Prop:=pX aa (DI b)/\pX aa (Jr b)/\∀key li,sM (DI b)=some key->lk aa.pQ key=some li->qlt aa li (psR b) (DI b) (Jr b)
theorem Un{aa:jB}{b:Code}{key:Nat}{li:qc5}{pl:List Nat}(h1:sM (DI b)=some key)(h2:lk aa.pQ key=some li)(h3:psR b=pl)(ha:qe (DI b)=[])(hb:∀x∈qe (Jr b),Kk aa x)
  (hn:∀n d,li.g n [] d=some (.norm,gJ li.ps d)) (hc:∀n x r d,li.g n (x::r) d=run aa n (DI b) (Mw li pl d x) (G_ (JZ aa li n (Jr b) r d) Mf)):qjH aa b:=by
 refine⟨xQ (qE ha),xQ hb,?_⟩
 intro key' li' e1 e2
 rw[h1]at e1
 cases e1
 rw[h2]at e2
 cases e2
 rw[h3]
 exact⟨hn,hc⟩
theorem MG{aa:jB}:∀{c:Code},(∀b∈jI c,qjH aa b)->qb2 aa c
 |.seq _a _b,h=>⟨MG λx hx=>h x (List.mem_append.2 (.inl hx)),MG λx hx=>h x (List.mem_append.2 (.inr hx))⟩
 |.cond _ _a _b,h=>⟨MG λx hx=>h x (List.mem_append.2 (.inl hx)),MG λx hx=>h x (List.mem_append.2 (.inr hx))⟩
 |.block _ c,h=>MG (c:=c) h
 |.loop c,h=>MG (c:=c) h
 |.rangeFunc _ _ _ _,h=>h _ (List.mem_singleton.2 rfl)
 |.skip,_=>trivial
 |.region _ _ _,_=>trivial
 |.exit _,_=>trivial
 |.scope _,_=>trivial
 |.label _,_=>trivial
 |.goto _,_=>trivial
 |.ret,_=>trivial
 |.refuse _,_=>trivial
def YM(P:Program)(l:List (Nat×Iter)):Prop:=∀x∈l,Mo P x.1 x.2
theorem wJ{P:Program}:YM P []:=by intro x hx;cases hx
theorem YK{P:Program}{f:Nat}{p:Iter}{l:List (Nat×Iter)}(h:Mo P f p)(hl:YM P l):YM P ((f,p)::l):=by
 intro x hx
 rcases List.mem_cons.1 hx with rfl|hx
 ·exact h
 ·exact hl x hx
def Yv(P:Program)(l:List (Nat×zb)):Prop:=∀x∈l,jD P x.1/\Hi P x.1 x.2
theorem TD{P:Program}:Yv P []:=by intro x hx;cases hx
theorem TU{P:Program}{f:Nat}{p:zb}{l:List (Nat×zb)}(h:jD P f/\Hi P f p)(hl:Yv P l):Yv P ((f,p)::l):=by
 intro x hx
 rcases List.mem_cons.1 hx with rfl|hx
 ·exact h
 ·exact hl x hx
theorem TE{P:Program}{l:List (Nat×zb)}(h:Yv P l):∀f m,lk l f=some m->jD P f/\Hi P f m:=λf m hl=>h (f,m) (sL hl)
theorem Zd{P:Program}{aa:jB}(hm:P.follows .mixedOrders=true)(ae:qx P aa)(hit:YM P aa.tS){f:FuncId}{fn:Func}(hf:P.funcs[f]? = some fn)(hb:fn.body.isSome=true)(hnt:fn.ntmps=aa.nt)(hname:(fn.name == "runtime.NumGoroutine")=false)
  {p:qS} (hps:Nat.ble p.ps.length aa.nt=true) (hl:∀b∈qe (body fn),Kk aa b) (hr:∀b∈jI (body fn),qjH aa b) (hd:zc aa (body fn)=true) (hg:∀d y,p.g d=some y->∃n,qL aa n fn (body fn) p.ps p.rs d=some y):qJ P f p:=by
 have cO:fn.body=some (body fn):=by
  unfold body
  cases h:fn.body with
  |none=>rw[h]at hb;cases hb
  |some c=>rfl
 exact⟨qX hf cO hname,qoA hm ae (λf it h=>hit (f,it) (sL h)) hf cO hnt (xQ hl) (MG hr) hd (Nat.le_of_ble_eq_true hps) hg⟩
end Go.Vi
