/- The abstract interpreter 'Vi', thirty-seventh part: a range over a function, by the interpreter. No condition beyond those typed in each theorem. -/
import Derived.Test.YtmlocmhkfnojbaaGreatVi36
namespace Go.Vi
open Go.RowKit
section
variable {P:Program} {C:cM} {aa:jB} {R:Type} {r:R} {s s' s1:St} {a a' a1:Act} {w w' W W' W1:World} {H H' Hf:FH} {Φ aU:Nat->qH} {ai:List qH} {M O O':Nat->Prop} {pl:List (Nat×qH)} {nt:Nat} {G:List Nat}
def rG(a:Ty)(cs:List Value):Array Value:=
 match a with
 |.pair x y=>#[j7 x (cs.take x.size),j7 y (cs.drop x.size)]
 |a=>#[j7 a cs]
def itF(f:Nat):Nat:=cond (Nat.ble 5000000 f) (f-5000000) f
def Nt(f:Nat)(l:Array Value)(y:Value):Array Value:=cond (Nat.ble 5000000 f) (l ++ #[y]) (#[y]++l)
def Mo(P:Program)(f:FuncId)(it:Iter):Prop:=jD P (itF f)/\it.a.ay=true/\∀(d:aI it.ps) (xs:List it.a.den),it.g d=some xs->∀(w:World) (H:FH) (vs:List Value) (ai:List qH),cI H w->jU P w H it.ps d vs ai->(qc ai).Nodup->(∀b∈qc ai,H b=none/\b<w.heap.size)->
 ∃cs:Nat->List Value,(∀(i:Nat) x,xs[i]? = some x->qm P it.a w H x (cs i) [])/\Rr P (itF f) (Nt f vs.toArray) xs.length (λi=>rG it.a (cs i)) H (· ∈qc ai) w
theorem HH{s s':St}(h:∀id,s'.obj id=s.obj id):∀{ps:List j3} {i:Nat},jC s' ps i=jC s ps i
 |[],_=>rfl
 |.v _::ps,i=>by simp only[jC,HH h (ps:=ps)]
 |.r _::ps,i=>by simp only[jC,HH h (ps:=ps)]
 |.c _::ps,i=>by simp only[jC,HH h (ps:=ps)]
 |.m _::ps,i=>by simp only[jC,HH h (ps:=ps),h]
 |.mr _ _::ps,i=>by simp only[jC,HH h (ps:=ps),h]
 |.t _ _::ps,i=>by simp only[jC,HH h (ps:=ps)]
 |.gm _::ps,i=>by simp only[jC,HH h (ps:=ps)]
 |.cm _ _::ps,i=>by simp only[jC,HH h (ps:=ps),h]
theorem qh.Vm(h:qh P C s a w H Φ):qh P C (s.af AV.aH) a w H Φ:=by
 refine⟨h.defers,h.size,h.le,h.hok,h.hnew,h.mod,?_,h.os,h.aN,h.pins⟩
 intro t av ht
 rw[St.aS]at ht
 obtain⟨jm,h0,rfl⟩:=Option.map_eq_some_iff.1 ht
 exact qi.bK AV.aH (FH.le_refl H) (λ_ _ _ _ hh=>hh) (λ_ _ _ _ hh=>hh) (λ_ _ _ _ _ _ hf _=>by cases hf) jm _ (h.ts t jm h0)
theorem qk4(s:St):(s.af AV.aH).calm:=by
 intro t av ht
 rw[St.aS]at ht
 obtain⟨jm,_,rfl⟩:=Option.map_eq_some_iff.1 ht
 exact RH jm
def xk(P:Program)(w:World)(Hf:FH)(M:Nat->Prop)(pl:List (Nat×qH))(nt:Nat)(s:St)(a:Act)(O:Nat->Prop)(W:World):Prop:=
 ∃H' aU,qh P (rT w M pl nt O W H') s a W H' aU/\s.calm/\Hf.le H'/\(∀b c,H' b=some c->Hf b=some c\/M b\/w.heap.size<=b)/\jO (λb=>M b) w W/\∀b,O b->b<W.heap.size/\H' b=none
theorem xk.move(h:xk P w Hf M pl nt s a O W)(hMO:∀b,O b->M b\/w.heap.size<=b)(hg:Rl w.heap.size O O' W W'):xk P w Hf M pl nt s a O' W':=by
 obtain⟨H',aU,hs,hc,hle,hn,hm,hO⟩:=h
 obtain⟨row,hg,hr,Sq⟩:=hg
 refine⟨H',aU,hs.U_ hc ⟨hg.os,hg.tape,hg.output⟩ hg.size ?_ (λb hb=>(hO b hb).2) (λb hb=>((Sq b).1 hb).imp id And.left),hc,hle,hn,hm.bA (N:=λk=>some k=row) ⟨hg.os,hg.tape,hg.output,hg.size,λk hk hne=>hg.block k hk (λe=>hne e)⟩ (λi hi=>?_),λb hb=>?_⟩
 ·intro b o' hb e ed
  refine(hg.block b (Array.getElem?_eq_some_iff.1 e).1 (λe2=>?_)).trans e
  rcases hr b e2.symm with h1|⟨_,o,ho,VI⟩
  ·exact hb h1
  ·rw[e]at ho;cases ho;rw[ed]at VI;cases VI
 ·rcases hr i hi.symm with h1|h1
  ·exact hMO i h1
  ·exact .inr h1.1
 ·rcases(Sq b).1 hb with h1|h1
  ·exact⟨Nat.lt_of_lt_of_le (hO b h1).1 hg.size,(hO b h1).2⟩
  ·refine⟨h1.2,?_⟩
   cases hq:H' b with
   |none=>rfl
   |some c=>
    have:=hs.hok.lt hq
    omega
theorem xk.run(_hs:qh P (rT w M pl nt O W H) s a W H Φ)(hle:Hf.le H)(hn:∀b c,H b=some c->Hf b=some c\/M b\/w.heap.size<=b)(hm:jO (λb=>M b) w W)(hO:∀b,O b->b<W.heap.size/\H b=none)(hok:cI Hf w)(hfr:∀b,M b->Hf b=none)
  (h1:j1 P (rT w M pl nt O W H) s1 a1 W1):xk P w Hf M pl nt (s1.af AV.aH) a1 O W1/\Gb w.heap.size W W1/\AX Hf W W1/\Rm O W W1:=by
 obtain⟨H1,Φ1,h1,_⟩:=h1
 have hM:∀i,(rT w M pl nt O W H).M0 i->M i\/w.heap.size<=i:=λi hi=>hi.1
 refine⟨⟨H1,Φ1,(h1.GZ hm.size (λb hb=>(hO b hb).1)).Vm,qk4 s1,FH.le_trans hle h1.le,?_,hm.bA h1.mod hM,λb hb=>⟨Nat.lt_of_lt_of_le (hO b hb).1 h1.mod.size,?_⟩⟩,⟨h1.mod.size,?_⟩,?_,?_⟩
 ·intro b c hb
  rcases h1.hnew b c hb with h2|h2|h2
  ·exact hn b c h2
  ·exact .inr (hM b h2)
  ·exact .inr (.inr (Nat.le_trans hm.size h2))
 ·cases hq:H1 b with
  |none=>rfl
  |some c=>
   rcases h1.hnew b c hq with h2|h2|h2
   ·have Sx:H b=some c:=h2
    rw[(hO b hb).2]at Sx;cases Sx
   ·exact absurd hb h2.2.2
   ·exact absurd (hO b hb).1 (Nat.not_lt.2 h2)
 ·intro k o _ hk ho
  refine(h1.mod.block k (Array.getElem?_eq_some_iff.1 hk).1 ?_).trans hk
  rintro⟨_,⟨o',e,e2⟩,_⟩
  have e':W.heap[k]? = some o':=e
  rw[hk]at e'
  cases e'
  rw[e2]at ho
  cases ho
 ·intro b c hb
  have hlt:=hok.lt hb
  refine h1.mod.block b (Nat.lt_of_lt_of_le hlt hm.size) ?_
  rintro⟨h2|h2,_⟩
  ·rw[hfr b h2]at hb;cases hb
  ·exact absurd hlt (Nat.not_lt.2 h2)
 ·intro b hb
  exact h1.mod.block b (hO b hb).1 (λh2=>h2.2.2 hb)
def Lz(P:Program)(w:World)(Hf:FH)(ai:List qH)(G:List Nat)(ps:List j3)(vs:List Value)(md:aV ps)(W:World):Prop:=
 ∃H' ag,jO (· ∈qc ai++G) w W/\Hf.le H'/\cI H' W/\(∀b c,H' b=some c->Hf b=some c\/b∈qc ai++G\/w.heap.size<=b)/\jR P W H' ps md vs ag/\(qc ag).Nodup/\∀b∈qc ag,H' b=none/\(b∈qc ai++G\/w.heap.size<=b)/\b<W.heap.size
theorem xk.after{ps:List j3}{d:aI ps}{vs:List Value}{md:aV ps}(hargs:jU P w Hf ps d vs ai)(uM:((dA ps ai 0).map (·.1)).Nodup)(h:xk P w Hf (· ∈qc ai++G) (dA ps ai 0) nt s a O W)(eu:jC s ps 0=some md):Lz P w Hf ai G ps vs md W:=by
 obtain⟨H',aU,hs,_,hle,hn,hm,_⟩:=h
 obtain⟨ag,k1,k2,k3⟩:=zn hs (FH.le_refl H') (i:=0) hargs (λx hx=>hs.pins.1 x.1 x.2 (FW uM hx)) eu
 have vv:=zm (ps:=ps) (i:=0)
 refine⟨H',ag,hm,hle,hs.hok,hn,k1,?_,?_⟩
 ·rw[k2]
  refine Hw vv.2 (λid aF=>?_) (λi hi j hj hij b hb'=>?_)
  ·obtain⟨o,ho⟩:=k3 id aF
   exact(hs.os id o ho).1.2.1
  ·obtain⟨o,ho⟩:=k3 i hi
   obtain⟨o',ho'⟩:=k3 j hj
   exact hs.aN i j o o' hij ho ho' b hb'
 ·intro b hb
  rw[k2]at hb
  obtain⟨j,hj,dY⟩:=List.mem_flatMap.1 hb
  obtain⟨o',ho'⟩:=k3 j hj
  obtain⟨q1,q2,q3⟩:=(hs.os j o' ho').2 b dY
  refine⟨q1,?_,q3⟩
  rcases q2 with q2|q2
  ·exact q2.1
  ·exact absurd q3 (Nat.not_lt.2 q2)
def qnC:X->Exit
 |.norm=>.normal
 |.exit i=>.exit i
 |.ret=>.ret
def Du:X->Code
 |.norm=>.skip
 |.exit i=>.exit i
 |.ret=>.ret
theorem qoc{x:X}{Q:Exit->Act->World->Prop}(h:Q (qnC x) a w):(Du x).wp P Q a w:=by
 cases x with
 |norm=>exact wp_skip h
 |exit i=>exact wp_exit h
 |ret=>exact wp_ret h
theorem DF{C':cM}{ts:List (Nat×AV)}{os:List (Nat×Option Obj)}{nt:Nat}(hnt:C'.nt=nt){a:Ty}{x:a.den}{cs:List Value}{pl:List Nat}{lz:Act}(hok:eW nt pl a=true)(hs:qh P C' ⟨ts,os,none⟩ lz w H Φ)(hfz:a.ay=true)(hr:qm P a w H x cs []):
  qh P C' ⟨Lv pl a x++ts,os,none⟩ {tmps:=((pl.toArray).zip (rG a cs)).foldl (λt (x:Tmp×Value)=>t.setIfInBounds x.1 x.2) lz.tmps,defers:=lz.defers} w H Φ:=by
 have one:∀{a:Ty} {x:a.den} {cs:List Value} {p:Nat},Nat.blt p nt=true->a.ay=true->qm P a w H x cs []->qh P C' ⟨[(p,.val a x)]++ts,os,none⟩ {tmps:=((#[p]:Array Tmp).zip #[j7 a cs]).foldl (λt (x:Tmp×Value)=>t.setIfInBounds x.1 x.2) lz.tmps,defers:=lz.defers} w H Φ:=by
  intro a x cs p hp hfz hr
  have iY:=hs.set (d:=p) (by rw[hnt];exact Eq.mp Nat.blt_eq hp) (av:=.val a x) (v:=j7 a cs) ⟨hfz,cs,rfl,hr⟩
  have hact:({tmps:=((#[p]:Array Tmp).zip #[j7 a cs]).foldl (λt (x:Tmp×Value)=>t.setIfInBounds x.1 x.2) lz.tmps,defers:=lz.defers}:Act)=lz.put (some p) (j7 a cs):=by
   simp[Act.put]
  rw[hact]
  exact iY
 cases pl with
 |nil=>cases a<;>cases hok
 |cons p pl=>
  cases pl with
  |nil=>
   cases a with
   |pair t u=>cases hok
   |int k=>exact one hok hfz hr
   |bool=>exact one hok hfz hr
   |list o t e=>exact one hok hfz hr
   |str t=>exact one hok hfz hr
   |ptr t=>exact one hok hfz hr
   |op t=>exact one hok hfz hr
   |arr n e=>exact one hok hfz hr
   |fn a r=>exact one hok hfz hr
   |bQ a b r=>exact one hok hfz hr
   |ext o n i j=>exact one hok hfz hr
  |cons q pl=>
   cases pl with
   |cons _ _=>cases a<;>cases hok
   |nil=>
    cases a with
    |pair t u=>
     have hok:(Nat.blt p nt&&Nat.blt q nt)=true:=hok
     rw[Bool.and_eq_true]at hok
     have hfz:(t.ay&&u.ay)=true:=hfz
     rw[Bool.and_eq_true]at hfz
     obtain⟨c1,c2,f1,f2,rfl,hf,h1,h2⟩:=hr
     obtain⟨rfl,rfl⟩:=List.append_eq_nil_iff.1 hf.symm
     have hl:=qm.length t h1
     have e1:(c1++c2).take t.size=c1:=by rw[<-hl];exact List.take_left' rfl
     have e2:(c1++c2).drop t.size=c2:=by rw[<-hl];exact List.drop_left' rfl
     have s1:=hs.set (d:=p) (by rw[hnt];exact Eq.mp Nat.blt_eq hok.1) (av:=.val t x.1) (v:=j7 t c1) ⟨hfz.1,c1,rfl,h1⟩
     have s2:=s1.set (d:=q) (by rw[hnt];exact Eq.mp Nat.blt_eq hok.2) (av:=.val u x.2) (v:=j7 u c2) ⟨hfz.2,c2,rfl,h2⟩
     have hact:({tmps:=(([p,q].toArray:Array Tmp).zip (rG (.pair t u) (c1++c2))).foldl (λt (x:Tmp×Value)=>t.setIfInBounds x.1 x.2) lz.tmps,defers:=lz.defers}:Act)=(lz.put (some p) (j7 t c1)).put (some q) (j7 u c2):=by
      unfold rG
      simp only[e1,e2]
      simp[Act.put]
     rw[hact]
     exact s2
    |_=>cases hok
theorem qoD{nt:Nat}{a:Ty}{pl:List Nat}(hok:eW nt pl a=true)(cs:List Value):(rG a cs).size=pl.length:=by
 cases pl with
 |nil=>cases a<;>cases hok
 |cons p pl=>
  cases pl with
  |nil=>cases a<;>first|rfl|cases hok
  |cons q pl=>
   cases pl with
   |cons _ _=>cases a<;>cases hok
   |nil=>cases a<;>first|rfl|cases hok
theorem qoi{li:qc5}(VN:P.follows .mixedOrders=true)(nE:li.ps.all j3.x_=true)(ae:qx P aa){n:Nat}{assign body:Code}{sQ:Array Tmp}{Sy:Operand}(heq:qlt aa li sQ.toList assign body)(hla:pX aa assign)(hlb:pX aa body)(hra:uH aa assign=true)(hrb:uH aa body=true)
  (hp:eW aa.nt sQ.toList li.a=true) (hnt:li.ps.length<=aa.nt) (hok:cI Hf w) {d:aI li.ps} {vs:List Value} (hargs:jU P w Hf li.ps d vs ai) (aq:(qc ai).Nodup) (hfr:∀b∈qc ai,Hf b=none/\b<w.heap.size) (hG:∀b∈G,Hf b=none/\b<w.heap.size/\b∉qc ai)
  (hsz:a.tmps.size=aa.nt) (hvs:vs=li.tl.map λt=>a.tmps.getD t undef) {gf:FuncId} {pre lb:Array Value} {ar:Value->Array Value} (Wt:∀y,ar y=pre ++ #[y]++lb) (hg:a.eval Sy = .func (.func gf) pre lb) (eC:jD P gf) (hfz:li.a.ay=true) {xs:List li.a.den} {cs:Nat->List Value}
  (hcs:∀(i:Nat) x,xs[i]? = some x->qm P li.a w Hf x (cs i) []) (hseq:Rr P gf ar xs.length (λi=>rG li.a (cs i)) Hf (· ∈G) w) {o:X×aV li.ps} (ho:li.g n xs d=some o) {Q:Exit->Act->World->Prop}
  (hend:∀(D:Nat) (W:World),w.heap.size<=D->Lz P w Hf ai G li.ps vs o.2 W->W.heap[D]? = some (.deferred (some []))->Q (qnC o.1) {a with defers:={target:=.collected D,args:=#[]}::a.defers} W):
  (Code.rangeFunc Sy sQ assign body).wp P Q a w:=by
 obtain⟨_,_,_,uM,_⟩:=vl (C:=sK w Hf aa.nt li.ps ai) 0 hargs
 have hC:∀O W H',qD (rT w (· ∈qc ai++G) (dA li.ps ai 0) aa.nt O W H') aa:=by
  intro O W H'
  refine⟨rfl,λid aF=>?_⟩
  obtain⟨_,_,h3,_⟩:=vl (C:=sK w Hf aa.nt li.ps ai) 0 hargs
  show lk (dA li.ps ai 0) id=none
  cases hq:lk (dA li.ps ai 0) id with
  |none=>rfl
  |some φ=>
   have h:pid 0<=id:=h3 _ (sL hq)
   unfold pid at h
   omega
 obtain⟨lz,IR⟩:∃lz:Act,lz={tmps:=a.tmps,defers:=[]}:=⟨_,rfl⟩
 have VC:lz.tmps.size=aa.nt:=by rw[IR];exact hsz
 have Vw:vs=li.tl.map λt=>lz.tmps.getD t undef:=by rw[IR];exact hvs
 have hde:lz.defers=[]:=by rw[IR]
 have K_:∀{s2:St} {a2:Act} {D:Nat} {O:Nat->Prop} {W:World},xk P w Hf (· ∈qc ai++G) (dA li.ps ai 0) aa.nt s2 a2 O W->jC s2 li.ps 0=some o.2->w.heap.size<=D->W.heap[D]? = some (.deferred (some []))->Q (qnC o.1) {a with defers:={target:=.collected D,args:=#[]}::a.defers} W:=
  λhM eu hD hh=>hend _ _ hD (hM.after hargs uM eu) hh
 have hstep:∀{O O':Nat->Prop} {A B:World},jO (· ∈qc ai++G) w A->(∀b,O b->b∈qc ai++G\/w.heap.size<=b)->Rl w.heap.size O O' A B->∀b,O' b->b∈qc ai++G\/w.heap.size<=b:=by
  rintro O O' A B hm hO ⟨_,_,_,Sq⟩ b hb
  rcases(Sq b).1 hb with h|h
  ·exact hO b h
  ·exact .inr (Nat.le_trans hm.size h.1)
 have Wh:∀b,b∈qc ai++G->Hf b=none:=λb hb=>(List.mem_append.1 hb).elim (λh=>(hfr b h).1) (λh=>(hG b h).1)
 refine qj7 Wt hg (λargs w'=>?_) ?_ hseq (λi=>(qoD hp (cs i)).trans (by simp)) (λb hb=>(hG b hb).2.1)
  (λi O W=>(∀b,O b->b∈qc ai++G\/w.heap.size<=b)/\∃md,xk P w Hf (· ∈qc ai++G) (dA li.ps ai 0) aa.nt (Mq li.tl li.ps (j8 li.ps d md)) lz O W/\li.g n (xs.drop i) (j8 li.ps d md)=some o)
  (λx O W=>(∀b,O b->b∈qc ai++G\/w.heap.size<=b)/\∃s1 md,xk P w Hf (· ∈qc ai++G) (dA li.ps ai 0) aa.nt s1 x.2 O W/\s1.mp=none/\run aa n body s1 (YH li n (xs.drop (x.1+1)) (j8 li.ps d md))=some o)
  (λc O W=>(∀b,O b->b∈qc ai++G\/w.heap.size<=b)/\∃s2 a2,c=Du o.1/\xk P w Hf (· ∈qc ai++G) (dA li.ps ai 0) aa.nt s2 a2 O W/\jC s2 li.ps 0=some o.2)
  ?_ ?_ ?_ ?_ ?_ ?_ ?_ ?_
 ·exact wy eC args w'
 ·intro b c hb
  exact hok.lt hb
 ·rintro i O O' A B ⟨hO,md,hM,hg⟩ fE
  exact⟨hstep (by obtain⟨_,_,_,_,_,_,hm,_⟩:=hM;exact hm) hO fE,md,hM.move hO fE,hg⟩
 ·rintro i O O' A B ⟨hO,s1,md,hM,h1,h2⟩ fE
  exact⟨hstep (by obtain⟨_,_,_,_,_,_,hm,_⟩:=hM;exact hm) hO fE,s1,md,hM.move hO fE,h1,h2⟩
 ·rintro i O O' A B ⟨hO,s2,a2,e,hM,eu⟩ fE
  exact⟨hstep (by obtain⟨_,_,_,_,_,_,hm,_⟩:=hM;exact hm) hO fE,s2,a2,e,hM.move hO fE,eu⟩
 ·-- at the beginning
  have bE:=Zn hok hargs aq hfr hnt
  have h0:qh P (rT w (· ∈qc ai++G) (dA li.ps ai 0) aa.nt (· ∈G) w Hf) (Ke li.ps d) {tmps:=vs.toArray++Array.replicate (aa.nt-vs.toArray.size) undef,defers:=[]} w Hf (λid=>(lk (dA li.ps ai 0) id).getD (ya id)):=by
   refine⟨rfl,bE.size,FH.le_refl _,hok,λb c hb=>.inl hb,jO.refl _ _,?_,?_,bE.aN,bE.pins⟩
   ·intro t av ht
    exact qi.ctx (C:=sK w Hf aa.nt li.ps ai) (by rfl) (by rfl) (λb hb hc=>(⟨hb.fz,hb.obj,.inl ⟨hb.may.imp (λh=>List.mem_append_left _ h) (λh=>h),.sS hc,λh=>hb.may.elim (λh2=>(hG b h).2.2 h2) (λh2=>absurd hb.lt (Nat.not_lt.2 h2))⟩,hb.lt⟩:ei (rT w (· ∈qc ai++G) (dA li.ps ai 0) aa.nt (· ∈G) w Hf) w Hf _ _ b)) (bE.ts t av ht)
   ·intro id o ho
    have h:=bE.os id o ho
    exact⟨h.1,λb hb=>⟨(h.2 b hb).1,.inl ⟨(h.2 b hb).2.1.imp (λh=>List.mem_append_left _ h) (λh=>h),h.1.dat b hb,λh3=>(h.2 b hb).2.1.elim (λh2=>(hG b h3).2.2 h2) (λh2=>absurd (h.2 b hb).2.2 (Nat.not_lt.2 h2))⟩,(h.2 b hb).2.2⟩⟩
  have eu:jC (Ke li.ps d) li.ps 0=some (gJ li.ps d):=Gt _ (λid o hm=>by
   show(lk (jG li.ps 0 d) id).join=some o
   rw[FW (Gp 0).2 hm]
   rfl)
  obtain⟨h1,h2⟩:=qkm (tl:=li.tl) nE hargs rfl uM rfl h0 (FH.le_refl Hf) eu VC hde Vw
  exact⟨λb hb=>.inl (List.mem_append_right _ hb),gJ li.ps d,⟨Hf,_,h1,h2,FH.le_refl _,λb c hb=>.inl hb,jO.refl _ _,λb hb=>⟨(hG b hb).2.1,(hG b hb).1⟩⟩,by rw[HE];exact ho⟩
 ·-- the loop variable
  rintro l m i O W hi ⟨Wz,md,⟨H',aU,hs,hc,hle,hn,hm,hO⟩,CA⟩
  have hx:xs[i]? = some (xs[i]'hi):=List.getElem?_eq_getElem hi
  rw[List.drop_eq_getElem_cons hi,heq.2]at CA
  have iY:=DF (C':=rT w (· ∈qc ai++G) (dA li.ps ai 0) aa.nt O W H') rfl hp hs hfz (qm.mono _ hle (by simp) (hcs i _ hx))
  rw[hde,Array.toArray_toList,IR]at iY
  refine wpIn_mono (Hu VN ae (hC O W H') assign hla hra ⟨H',aU,iY,trivial⟩ CA) ?_
  rintro e a1 W1 hp1
  cases e with
  |normal=>
   obtain⟨s1,hs1,h1⟩:=hp1
   simp only[G_,JZ]at h1
   cases hmp:s1.mp.isNone with
   |false=>rw[hmp]at h1;cases h1
   |true=>
    rw[hmp,cond_true]at h1
    obtain⟨k1,k2,k3,k4⟩:=xk.run hs hle hn hm hO hok Wh hs1
    exact⟨⟨Wz,_,md,k1,Option.isNone_iff_eq_none.1 hmp,h1⟩,k2,k3,k4⟩
  |exit j=>obtain⟨s1,hs1,h1⟩:=hp1;cases h1
  |ret=>obtain⟨s1,hs1,h1⟩:=hp1;cases h1
  |_=>exact hp1.elim
 ·-- a round
  rintro l m i O a₁ W hi ⟨Wz,s1,md,⟨H',aU,hs,hc,hle,hn,hm,hO⟩,hmp,CA⟩
  refine wpIn_mono (Hu VN ae (hC O W H') body hlb hrb ⟨H',aU,hs,by rw[hmp];trivial⟩ CA) ?_
  rintro e a2 W2 hp2
  have fin:∀{x:X} {s2:St},j1 P (rT w (· ∈qc ai++G) (dA li.ps ai 0) aa.nt O W H') s2 a2 W2->YH li n (xs.drop (i+1)) (j8 li.ps d md) x s2=some o->∃Im,jC (s2.af AV.aH) li.ps 0=some Im/\(xk P w Hf (· ∈qc ai++G) (dA li.ps ai 0) aa.nt (s2.af AV.aH) a2 O W2/\Gb w.heap.size W W2/\AX Hf W W2/\Rm O W W2)/\
    (match x with|.norm=>li.g n (xs.drop (i+1)) (j8 li.ps (j8 li.ps d md) Im)|e=>some (e,Im))=some o:=by
   intro x s2 hs2 h2
   unfold YH at h2
   split at h2
   ·rename_i Im aa8
    exact⟨Im,(HH (s:=s2) (s':=s2.af AV.aH) (λ_=>rfl)).trans aa8,xk.run hs hle hn hm hO hok Wh hs2,h2⟩
   ·cases h2
  cases e with
  |normal=>
   obtain⟨s2,hs2,h2⟩:=hp2
   obtain⟨Im,eu,⟨⟨H2,jj,k1,_,k2,k3,k4,k7⟩,k5,k6,k8⟩,h3⟩:=fin hs2 h2
   simp only at h3
   rw[HF]at h3
   obtain⟨q1,q2⟩:=qkm (tl:=li.tl) nE hargs rfl uM rfl k1 k2 eu VC hde Vw
   exact⟨k5,k6,k8,Wz,Im,⟨H2,jj,q1,q2,k2,k3,k4,k7⟩,h3⟩
  |exit j=>
   obtain⟨s2,hs2,h2⟩:=hp2
   obtain⟨Im,eu,⟨k1,k5,k6,k8⟩,h3⟩:=fin hs2 h2
   cases h3
   exact⟨k5,Wz,_,_,rfl,k1,eu⟩
  |ret=>
   obtain⟨s2,hs2,h2⟩:=hp2
   obtain⟨Im,eu,⟨k1,k5,k6,k8⟩,h3⟩:=fin hs2 h2
   cases h3
   exact⟨k5,Wz,_,_,rfl,k1,eu⟩
  |_=>exact hp2.elim
 ·-- all have come
  rintro D O W hD ⟨_,md,hM,CA⟩ hh
  rw[List.drop_length,heq.1,Gk]at CA
  cases CA
  exact K_ hM ((Gt _ (λid o hm=>qhk.2 hm)).trans (by rw[Gk])) hD hh
 ·rintro D c O W hD ⟨_,s2,a2,rfl,hM,eu⟩ hh
  exact qoc (K_ hM eu hD hh)
end
end Go.Vi
