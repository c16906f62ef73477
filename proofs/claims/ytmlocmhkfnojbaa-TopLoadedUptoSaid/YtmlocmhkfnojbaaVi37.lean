/- The abstract interpreter 'Vi', thirty-seventh part: a range over a function, by the interpreter. No condition beyond those typed in each theorem. -/
import Derived.Test.YtmlocmhkfnojbaaVi36
namespace Go.Vi
open Go.RowKit
section
variable {P:Program} {C:Ctx} {cfg:jG} {R:Type} {r:R} {s s' s1:St} {a a' a1:Act} {w w' W W' W1:World} {H H' Hf:FH} {Φ Φ':Nat->qB} {Φs:List qB} {M O O':Nat->Prop} {pl:List (Nat×qB)} {nt:Nat} {G:List Nat}
def encE(a:Ty)(cs:List Value):Array Value:=
 match a with
 |.pair x y=>#[jZ x (cs.take x.size),jZ y (cs.drop x.size)]
 |a=>#[jZ a cs]
def itF(f:Nat):Nat:=cond (Nat.ble 5000000 f) (f-5000000) f
def itAr(f:Nat)(l:Array Value)(y:Value):Array Value:=cond (Nat.ble 5000000 f) (l ++ #[y]) (#[y]++l)
def qg9(P:Program)(f:FuncId)(it:Iter):Prop:=qW P (itF f)/\it.a.isFz=true/\∀(d:PDens it.ps) (xs:List it.a.den),it.g d=some xs->∀(w:World) (H:FH) (vs:List Value) (Φs:List qB),HOk H w->jP P w H it.ps d vs Φs->(qd Φs).Nodup->(∀b∈qd Φs,H b=none/\b<w.heap.size)->
 ∃cs:Nat->List Value,(∀(i:Nat) x,xs[i]? = some x->qm P it.a w H x (cs i) [])/\qfe P (itF f) (itAr f vs.toArray) xs.length (λi=>encE it.a (cs i)) H (· ∈qd Φs) w
theorem qa0{s s':St}(h:∀id,s'.obj id=s.obj id):∀{ps:List jT} {i:Nat},jA s' ps i=jA s ps i
 |[],_=>rfl
 |.v _::ps,i=>by simp only[jA,qa0 h (ps:=ps)]
 |.r _::ps,i=>by simp only[jA,qa0 h (ps:=ps)]
 |.c _::ps,i=>by simp only[jA,qa0 h (ps:=ps)]
 |.m _::ps,i=>by simp only[jA,qa0 h (ps:=ps),h]
 |.mr _ _::ps,i=>by simp only[jA,qa0 h (ps:=ps),h]
 |.t _ _::ps,i=>by simp only[jA,qa0 h (ps:=ps)]
 |.gm _::ps,i=>by simp only[jA,qa0 h (ps:=ps)]
 |.cm _ _::ps,i=>by simp only[jA,qa0 h (ps:=ps),h]
theorem qg.killU(h:qg P C s a w H Φ):qg P C (s.killIf AV.isUpd) a w H Φ:=by
 refine⟨h.defers,h.size,h.le,h.hok,h.hnew,h.mod,?_,h.os,h.disj,h.pins⟩
 intro t av ht
 rw[St.get_killIf]at ht
 obtain⟨av0,h0,rfl⟩:=Option.map_eq_some_iff.1 ht
 exact qh.transfer AV.isUpd (FH.le_refl H) (λ_ _ _ _ hh=>hh) (λ_ _ _ _ hh=>hh) (λ_ _ _ _ _ _ hf _=>by cases hf) av0 _ (h.ts t av0 h0)
theorem qkB(s:St):(s.killIf AV.isUpd).calm:=by
 intro t av ht
 rw[St.get_killIf]at ht
 obtain⟨av0,_,rfl⟩:=Option.map_eq_some_iff.1 ht
 exact qc2 av0
def Mid(P:Program)(w:World)(Hf:FH)(M:Nat->Prop)(pl:List (Nat×qB))(nt:Nat)(s:St)(a:Act)(O:Nat->Prop)(W:World):Prop:=
 ∃H' Φ',qg P (qet w M pl nt O W H') s a W H' Φ'/\s.calm/\Hf.le H'/\(∀b c,H' b=some c->Hf b=some c\/M b\/w.heap.size<=b)/\jM (λb=>M b) w W/\∀b,O b->b<W.heap.size/\H' b=none
theorem Mid.move(h:Mid P w Hf M pl nt s a O W)(hMO:∀b,O b->M b\/w.heap.size<=b)(hg:qha w.heap.size O O' W W'):Mid P w Hf M pl nt s a O' W':=by
 obtain⟨H',Φ',hs,hc,hle,hn,hm,hO⟩:=h
 obtain⟨row,hg,hr,hO'⟩:=hg
 refine⟨H',Φ',hs.moveK hc ⟨hg.os,hg.tape,hg.output⟩ hg.size ?_ (λb hb=>(hO b hb).2) (λb hb=>((hO' b).1 hb).imp id And.left),hc,hle,hn,hm.trans_new (N:=λk=>some k=row) ⟨hg.os,hg.tape,hg.output,hg.size,λk hk hne=>hg.block k hk (λe=>hne e)⟩ (λi hi=>?_),λb hb=>?_⟩
 ·intro b o' hb e ed
  refine(hg.block b (Array.getElem?_eq_some_iff.1 e).1 (λe2=>?_)).trans e
  rcases hr b e2.symm with h1|⟨_,o,ho,hoc⟩
  ·exact hb h1
  ·rw[e]at ho;cases ho;rw[ed]at hoc;cases hoc
 ·rcases hr i hi.symm with h1|h1
  ·exact hMO i h1
  ·exact .inr h1.1
 ·rcases(hO' b).1 hb with h1|h1
  ·exact⟨Nat.lt_of_lt_of_le (hO b h1).1 hg.size,(hO b h1).2⟩
  ·refine⟨h1.2,?_⟩
   cases hq:H' b with
   |none=>rfl
   |some c=>
    have:=hs.hok.lt hq
    omega
theorem Mid.run(_hs:qg P (qet w M pl nt O W H) s a W H Φ)(hle:Hf.le H)(hn:∀b c,H b=some c->Hf b=some c\/M b\/w.heap.size<=b)(hm:jM (λb=>M b) w W)(hO:∀b,O b->b<W.heap.size/\H b=none)(hok:HOk Hf w)(hfr:∀b,M b->Hf b=none)
  (h1:jX P (qet w M pl nt O W H) s1 a1 W1):Mid P w Hf M pl nt (s1.killIf AV.isUpd) a1 O W1/\qdL w.heap.size W W1/\qdK Hf W W1/\qjd O W W1:=by
 obtain⟨H1,Φ1,h1,_⟩:=h1
 have hM:∀i,(qet w M pl nt O W H).M0 i->M i\/w.heap.size<=i:=λi hi=>hi.1
 refine⟨⟨H1,Φ1,(h1.rebaseK hm.size (λb hb=>(hO b hb).1)).killU,qkB s1,FH.le_trans hle h1.le,?_,hm.trans_new h1.mod hM,λb hb=>⟨Nat.lt_of_lt_of_le (hO b hb).1 h1.mod.size,?_⟩⟩,⟨h1.mod.size,?_⟩,?_,?_⟩
 ·intro b c hb
  rcases h1.hnew b c hb with h2|h2|h2
  ·exact hn b c h2
  ·exact .inr (hM b h2)
  ·exact .inr (.inr (Nat.le_trans hm.size h2))
 ·cases hq:H1 b with
  |none=>rfl
  |some c=>
   rcases h1.hnew b c hq with h2|h2|h2
   ·have h2':H b=some c:=h2
    rw[(hO b hb).2]at h2';cases h2'
   ·exact absurd hb h2.2.2
   ·exact absurd (hO b hb).1 (Nat.not_lt.2 h2)
 ·intro k o _ hk ho
  refine(h1.mod.block k (Array.getElem?_eq_some_iff.1 hk).1 ?_).trans hk
  rintro⟨_,⟨o',e,e2⟩,_⟩
  have e':W.heap[k]? = some o':=e
  rw[hk]at e'
  cases e'
  rw[e2]at ho
  cases ho
 ·intro b c hb
  have hlt:=hok.lt hb
  refine h1.mod.block b (Nat.lt_of_lt_of_le hlt hm.size) ?_
  rintro⟨h2|h2,_⟩
  ·rw[hfr b h2]at hb;cases hb
  ·exact absurd hlt (Nat.not_lt.2 h2)
 ·intro b hb
  exact h1.mod.block b (hO b hb).1 (λh2=>h2.2.2 hb)
def After(P:Program)(w:World)(Hf:FH)(Φs:List qB)(G:List Nat)(ps:List jT)(vs:List Value)(md:MDens ps)(W:World):Prop:=
 ∃H' Φs',jM (· ∈qd Φs++G) w W/\Hf.le H'/\HOk H' W/\(∀b c,H' b=some c->Hf b=some c\/b∈qd Φs++G\/w.heap.size<=b)/\jK P W H' ps md vs Φs'/\(qd Φs').Nodup/\∀b∈qd Φs',H' b=none/\(b∈qd Φs++G\/w.heap.size<=b)/\b<W.heap.size
theorem Mid.after{ps:List jT}{d:PDens ps}{vs:List Value}{md:MDens ps}(hargs:jP P w Hf ps d vs Φs)(hpn:((j9 ps Φs 0).map (·.1)).Nodup)(h:Mid P w Hf (· ∈qd Φs++G) (j9 ps Φs 0) nt s a O W)(hom:jA s ps 0=some md):After P w Hf Φs G ps vs md W:=by
 obtain⟨H',Φ',hs,_,hle,hn,hm,_⟩:=h
 obtain⟨Φs',k1,k2,k3⟩:=qay hs (FH.le_refl H') (i:=0) hargs (λx hx=>hs.pins.1 x.1 x.2 (qfn hpn hx)) hom
 have hids:=qaU (ps:=ps) (i:=0)
 refine⟨H',Φs',hm,hle,hs.hok,hn,k1,?_,?_⟩
 ·rw[k2]
  refine qa8 hids.2 (λid hid=>?_) (λi hi j hj hij b hb'=>?_)
  ·obtain⟨o,ho⟩:=k3 id hid
   exact(hs.os id o ho).1.2.1
  ·obtain⟨o,ho⟩:=k3 i hi
   obtain⟨o',ho'⟩:=k3 j hj
   exact hs.disj i j o o' hij ho ho' b hb'
 ·intro b hb
  rw[k2]at hb
  obtain⟨j,hj,hbj⟩:=List.mem_flatMap.1 hb
  obtain⟨o',ho'⟩:=k3 j hj
  obtain⟨q1,q2,q3⟩:=(hs.os j o' ho').2 b hbj
  refine⟨q1,?_,q3⟩
  rcases q2 with q2|q2
  ·exact q2.1
  ·exact absurd q3 (Nat.not_lt.2 q2)
def qm0:X->Exit
 |.norm=>.normal
 |.exit i=>.exit i
 |.ret=>.ret
def codeOf:X->Code
 |.norm=>.skip
 |.exit i=>.exit i
 |.ret=>.ret
theorem qnI{x:X}{Q:Exit->Act->World->Prop}(h:Q (qm0 x) a w):(codeOf x).wp P Q a w:=by
 cases x with
 |norm=>exact wp_skip h
 |exit i=>exact wp_exit h
 |ret=>exact wp_ret h
theorem bind_sim{C':Ctx}{ts:List (Nat×AV)}{os:List (Nat×Option Obj)}{nt:Nat}(hnt:C'.nt=nt){a:Ty}{x:a.den}{cs:List Value}{pl:List Nat}{aε:Act}(hok:okP nt pl a=true)(hs:qg P C' ⟨ts,os,none⟩ aε w H Φ)(hfz:a.isFz=true)(hr:qm P a w H x cs []):
  qg P C' ⟨bindP pl a x++ts,os,none⟩ {tmps:=((pl.toArray).zip (encE a cs)).foldl (λt (x:Tmp×Value)=>t.setIfInBounds x.1 x.2) aε.tmps,defers:=aε.defers} w H Φ:=by
 have one:∀{a:Ty} {x:a.den} {cs:List Value} {p:Nat},Nat.blt p nt=true->a.isFz=true->qm P a w H x cs []->qg P C' ⟨[(p,.val a x)]++ts,os,none⟩ {tmps:=((#[p]:Array Tmp).zip #[jZ a cs]).foldl (λt (x:Tmp×Value)=>t.setIfInBounds x.1 x.2) aε.tmps,defers:=aε.defers} w H Φ:=by
  intro a x cs p hp hfz hr
  have hset:=hs.set (d:=p) (by rw[hnt];exact Eq.mp Nat.blt_eq hp) (av:=.val a x) (v:=jZ a cs) ⟨hfz,cs,rfl,hr⟩
  have hact:({tmps:=((#[p]:Array Tmp).zip #[jZ a cs]).foldl (λt (x:Tmp×Value)=>t.setIfInBounds x.1 x.2) aε.tmps,defers:=aε.defers}:Act)=aε.put (some p) (jZ a cs):=by
   simp[Act.put]
  rw[hact]
  exact hset
 cases pl with
 |nil=>cases a<;>cases hok
 |cons p pl=>
  cases pl with
  |nil=>
   cases a with
   |pair t u=>cases hok
   |int k=>exact one hok hfz hr
   |bool=>exact one hok hfz hr
   |list o t e=>exact one hok hfz hr
   |str t=>exact one hok hfz hr
   |ptr t=>exact one hok hfz hr
   |op t=>exact one hok hfz hr
   |arr n e=>exact one hok hfz hr
   |fn a r=>exact one hok hfz hr
   |fn2 a b r=>exact one hok hfz hr
   |ext o n i j=>exact one hok hfz hr
  |cons q pl=>
   cases pl with
   |cons _ _=>cases a<;>cases hok
   |nil=>
    cases a with
    |pair t u=>
     have hok:(Nat.blt p nt&&Nat.blt q nt)=true:=hok
     rw[Bool.and_eq_true]at hok
     have hfz:(t.isFz&&u.isFz)=true:=hfz
     rw[Bool.and_eq_true]at hfz
     obtain⟨c1,c2,f1,f2,rfl,hf,h1,h2⟩:=hr
     obtain⟨rfl,rfl⟩:=List.append_eq_nil_iff.1 hf.symm
     have hl:=qm.length t h1
     have e1:(c1++c2).take t.size=c1:=by rw[<-hl];exact List.take_left' rfl
     have e2:(c1++c2).drop t.size=c2:=by rw[<-hl];exact List.drop_left' rfl
     have s1:=hs.set (d:=p) (by rw[hnt];exact Eq.mp Nat.blt_eq hok.1) (av:=.val t x.1) (v:=jZ t c1) ⟨hfz.1,c1,rfl,h1⟩
     have s2:=s1.set (d:=q) (by rw[hnt];exact Eq.mp Nat.blt_eq hok.2) (av:=.val u x.2) (v:=jZ u c2) ⟨hfz.2,c2,rfl,h2⟩
     have hact:({tmps:=(([p,q].toArray:Array Tmp).zip (encE (.pair t u) (c1++c2))).foldl (λt (x:Tmp×Value)=>t.setIfInBounds x.1 x.2) aε.tmps,defers:=aε.defers}:Act)=(aε.put (some p) (jZ t c1)).put (some q) (jZ u c2):=by
      unfold encE
      simp only[e1,e2]
      simp[Act.put]
     rw[hact]
     exact s2
    |_=>cases hok
theorem qod{nt:Nat}{a:Ty}{pl:List Nat}(hok:okP nt pl a=true)(cs:List Value):(encE a cs).size=pl.length:=by
 cases pl with
 |nil=>cases a<;>cases hok
 |cons p pl=>
  cases pl with
  |nil=>cases a<;>first|rfl|cases hok
  |cons q pl=>
   cases pl with
   |cons _ _=>cases a<;>cases hok
   |nil=>cases a<;>first|rfl|cases hok
theorem qnQ{li:qdJ}(hmx:P.follows .mixedOrders=true)(hnT:li.ps.all jT.noT=true)(hcfg:qu P cfg){n:Nat}{assign body:Code}{prms:Array Tmp}{gop:Operand}(heq:qkW cfg li prms.toList assign body)(hla:qax cfg assign)(hlb:qax cfg body)(hra:qai cfg assign=true)(hrb:qai cfg body=true)
  (hp:okP cfg.nt prms.toList li.a=true) (hnt:li.ps.length<=cfg.nt) (hok:HOk Hf w) {d:PDens li.ps} {vs:List Value} (hargs:jP P w Hf li.ps d vs Φs) (hnd:(qd Φs).Nodup) (hfr:∀b∈qd Φs,Hf b=none/\b<w.heap.size) (hG:∀b∈G,Hf b=none/\b<w.heap.size/\b∉qd Φs)
  (hsz:a.tmps.size=cfg.nt) (hvs:vs=li.tl.map λt=>a.tmps.getD t undef) {gf:FuncId} {pre lb:Array Value} {ar:Value->Array Value} (har:∀y,ar y=pre ++ #[y]++lb) (hg:a.eval gop = .func (.func gf) pre lb) (hcal:qW P gf) (hfz:li.a.isFz=true) {xs:List li.a.den} {cs:Nat->List Value}
  (hcs:∀(i:Nat) x,xs[i]? = some x->qm P li.a w Hf x (cs i) []) (hseq:qfe P gf ar xs.length (λi=>encE li.a (cs i)) Hf (· ∈G) w) {o:X×MDens li.ps} (ho:li.g n xs d=some o) {Q:Exit->Act->World->Prop}
  (hend:∀(D:Nat) (W:World),w.heap.size<=D->After P w Hf Φs G li.ps vs o.2 W->W.heap[D]? = some (.deferred (some []))->Q (qm0 o.1) {a with defers:={target:=.collected D,args:=#[]}::a.defers} W):
  (Code.rangeFunc gop prms assign body).wp P Q a w:=by
 obtain⟨_,_,_,hpn,_⟩:=qaO (C:=qbG w Hf cfg.nt li.ps Φs) 0 hargs
 have hC:∀O W H',qz (qet w (· ∈qd Φs++G) (j9 li.ps Φs 0) cfg.nt O W H') cfg:=by
  intro O W H'
  refine⟨rfl,λid hid=>?_⟩
  obtain⟨_,_,h3,_⟩:=qaO (C:=qbG w Hf cfg.nt li.ps Φs) 0 hargs
  show lk (j9 li.ps Φs 0) id=none
  cases hq:lk (j9 li.ps Φs 0) id with
  |none=>rfl
  |some φ=>
   have h:pid 0<=id:=h3 _ (qbC hq)
   unfold pid at h
   omega
 obtain⟨aε,haε⟩:∃aε:Act,aε={tmps:=a.tmps,defers:=[]}:=⟨_,rfl⟩
 have hsz':aε.tmps.size=cfg.nt:=by rw[haε];exact hsz
 have hvs':vs=li.tl.map λt=>aε.tmps.getD t undef:=by rw[haε];exact hvs
 have hde:aε.defers=[]:=by rw[haε]
 have hend2:∀{s2:St} {a2:Act} {D:Nat} {O:Nat->Prop} {W:World},Mid P w Hf (· ∈qd Φs++G) (j9 li.ps Φs 0) cfg.nt s2 a2 O W->jA s2 li.ps 0=some o.2->w.heap.size<=D->W.heap[D]? = some (.deferred (some []))->Q (qm0 o.1) {a with defers:={target:=.collected D,args:=#[]}::a.defers} W:=
  λhM hom hD hh=>hend _ _ hD (hM.after hargs hpn hom) hh
 have hstep:∀{O O':Nat->Prop} {A B:World},jM (· ∈qd Φs++G) w A->(∀b,O b->b∈qd Φs++G\/w.heap.size<=b)->qha w.heap.size O O' A B->∀b,O' b->b∈qd Φs++G\/w.heap.size<=b:=by
  rintro O O' A B hm hO ⟨_,_,_,hO'⟩ b hb
  rcases(hO' b).1 hb with h|h
  ·exact hO b h
  ·exact .inr (Nat.le_trans hm.size h.1)
 have hfr2:∀b,b∈qd Φs++G->Hf b=none:=λb hb=>(List.mem_append.1 hb).elim (λh=>(hfr b h).1) (λh=>(hG b h).1)
 refine qnS har hg (λargs w'=>?_) ?_ hseq (λi=>(qod hp (cs i)).trans (by simp)) (λb hb=>(hG b hb).2.1)
  (λi O W=>(∀b,O b->b∈qd Φs++G\/w.heap.size<=b)/\∃md,Mid P w Hf (· ∈qd Φs++G) (j9 li.ps Φs 0) cfg.nt (qfK li.tl li.ps (j3 li.ps d md)) aε O W/\li.g n (xs.drop i) (j3 li.ps d md)=some o)
  (λx O W=>(∀b,O b->b∈qd Φs++G\/w.heap.size<=b)/\∃s1 md,Mid P w Hf (· ∈qd Φs++G) (j9 li.ps Φs 0) cfg.nt s1 x.2 O W/\s1.mp=none/\run cfg n body s1 (qkg li n (xs.drop (x.1+1)) (j3 li.ps d md))=some o)
  (λc O W=>(∀b,O b->b∈qd Φs++G\/w.heap.size<=b)/\∃s2 a2,c=codeOf o.1/\Mid P w Hf (· ∈qd Φs++G) (j9 li.ps Φs 0) cfg.nt s2 a2 O W/\jA s2 li.ps 0=some o.2)
  ?_ ?_ ?_ ?_ ?_ ?_ ?_ ?_
 ·exact qaJ hcal args w'
 ·intro b c hb
  exact hok.lt hb
 ·rintro i O O' A B ⟨hO,md,hM,hg⟩ hgr
  exact⟨hstep (by obtain⟨_,_,_,_,_,_,hm,_⟩:=hM;exact hm) hO hgr,md,hM.move hO hgr,hg⟩
 ·rintro i O O' A B ⟨hO,s1,md,hM,h1,h2⟩ hgr
  exact⟨hstep (by obtain⟨_,_,_,_,_,_,hm,_⟩:=hM;exact hm) hO hgr,s1,md,hM.move hO hgr,h1,h2⟩
 ·rintro i O O' A B ⟨hO,s2,a2,e,hM,hom⟩ hgr
  exact⟨hstep (by obtain⟨_,_,_,_,_,_,hm,_⟩:=hM;exact hm) hO hgr,s2,a2,e,hM.move hO hgr,hom⟩
 ·-- at the beginning
  have hsim:=qd2 hok hargs hnd hfr hnt
  have h0:qg P (qet w (· ∈qd Φs++G) (j9 li.ps Φs 0) cfg.nt (· ∈G) w Hf) (qcx li.ps d) {tmps:=vs.toArray++Array.replicate (cfg.nt-vs.toArray.size) undef,defers:=[]} w Hf (λid=>(lk (j9 li.ps Φs 0) id).getD (nilI id)):=by
   refine⟨rfl,hsim.size,FH.le_refl _,hok,λb c hb=>.inl hb,jM.refl _ _,?_,?_,hsim.disj,hsim.pins⟩
   ·intro t av ht
    exact qh.ctx (C:=qbG w Hf cfg.nt li.ps Φs) (by rfl) (by rfl) (λb hb hc=>(⟨hb.fz,hb.obj,.inl ⟨hb.may.imp (λh=>List.mem_append_left _ h) (λh=>h),.of_cells hc,λh=>hb.may.elim (λh2=>(hG b h).2.2 h2) (λh2=>absurd hb.lt (Nat.not_lt.2 h2))⟩,hb.lt⟩:qaB (qet w (· ∈qd Φs++G) (j9 li.ps Φs 0) cfg.nt (· ∈G) w Hf) w Hf _ _ b)) (hsim.ts t av ht)
   ·intro id o ho
    have h:=hsim.os id o ho
    exact⟨h.1,λb hb=>⟨(h.2 b hb).1,.inl ⟨(h.2 b hb).2.1.imp (λh=>List.mem_append_left _ h) (λh=>h),h.1.dat b hb,λh3=>(h.2 b hb).2.1.elim (λh2=>(hG b h3).2.2 h2) (λh2=>absurd (h.2 b hb).2.2 (Nat.not_lt.2 h2))⟩,(h.2 b hb).2.2⟩⟩
  have hom:jA (qcx li.ps d) li.ps 0=some (qbK li.ps d):=qa5 _ (λid o hm=>by
   show(lk (jF li.ps 0 d) id).join=some o
   rw[qfn (qaI 0).2 hm]
   rfl)
  obtain⟨h1,h2⟩:=qjP (tl:=li.tl) hnT hargs rfl hpn rfl h0 (FH.le_refl Hf) hom hsz' hde hvs'
  exact⟨λb hb=>.inl (List.mem_append_right _ hb),qbK li.ps d,⟨Hf,_,h1,h2,FH.le_refl _,λb c hb=>.inl hb,jM.refl _ _,λb hb=>⟨(hG b hb).2.1,(hG b hb).1⟩⟩,by rw[qbI];exact ho⟩
 ·-- the loop variable
  rintro l m i O W hi ⟨hOw,md,⟨H',Φ',hs,hc,hle,hn,hm,hO⟩,hgo⟩
  have hx:xs[i]? = some (xs[i]'hi):=List.getElem?_eq_getElem hi
  rw[List.drop_eq_getElem_cons hi,heq.2]at hgo
  have hset:=bind_sim (C':=qet w (· ∈qd Φs++G) (j9 li.ps Φs 0) cfg.nt O W H') rfl hp hs hfz (qm.mono _ hle (by simp) (hcs i _ hx))
  rw[hde,Array.toArray_toList,haε]at hset
  refine wpIn_mono (qb9 hmx hcfg (hC O W H') assign hla hra ⟨H',Φ',hset,trivial⟩ hgo) ?_
  rintro e a1 W1 hp1
  cases e with
  |normal=>
   obtain⟨s1,hs1,h1⟩:=hp1
   simp only[qhX,qj1]at h1
   cases hmp:s1.mp.isNone with
   |false=>rw[hmp]at h1;cases h1
   |true=>
    rw[hmp,cond_true]at h1
    obtain⟨k1,k2,k3,k4⟩:=Mid.run hs hle hn hm hO hok hfr2 hs1
    exact⟨⟨hOw,_,md,k1,Option.isNone_iff_eq_none.1 hmp,h1⟩,k2,k3,k4⟩
  |exit j=>obtain⟨s1,hs1,h1⟩:=hp1;cases h1
  |ret=>obtain⟨s1,hs1,h1⟩:=hp1;cases h1
  |_=>exact hp1.elim
 ·-- a round
  rintro l m i O a₁ W hi ⟨hOw,s1,md,⟨H',Φ',hs,hc,hle,hn,hm,hO⟩,hmp,hgo⟩
  refine wpIn_mono (qb9 hmx hcfg (hC O W H') body hlb hrb ⟨H',Φ',hs,by rw[hmp];trivial⟩ hgo) ?_
  rintro e a2 W2 hp2
  have fin:∀{x:X} {s2:St},jX P (qet w (· ∈qd Φs++G) (j9 li.ps Φs 0) cfg.nt O W H') s2 a2 W2->qkg li n (xs.drop (i+1)) (j3 li.ps d md) x s2=some o->∃md2,jA (s2.killIf AV.isUpd) li.ps 0=some md2/\(Mid P w Hf (· ∈qd Φs++G) (j9 li.ps Φs 0) cfg.nt (s2.killIf AV.isUpd) a2 O W2/\qdL w.heap.size W W2/\qdK Hf W W2/\qjd O W W2)/\
    (match x with|.norm=>li.g n (xs.drop (i+1)) (j3 li.ps (j3 li.ps d md) md2)|e=>some (e,md2))=some o:=by
   intro x s2 hs2 h2
   unfold qkg at h2
   split at h2
   ·rename_i md2 hmd2
    exact⟨md2,(qa0 (s:=s2) (s':=s2.killIf AV.isUpd) (λ_=>rfl)).trans hmd2,Mid.run hs hle hn hm hO hok hfr2 hs2,h2⟩
   ·cases h2
  cases e with
  |normal=>
   obtain⟨s2,hs2,h2⟩:=hp2
   obtain⟨md2,hom,⟨⟨H2,Φ2,k1,_,k2,k3,k4,k7⟩,k5,k6,k8⟩,h3⟩:=fin hs2 h2
   simp only at h3
   rw[qbH]at h3
   obtain⟨q1,q2⟩:=qjP (tl:=li.tl) hnT hargs rfl hpn rfl k1 k2 hom hsz' hde hvs'
   exact⟨k5,k6,k8,hOw,md2,⟨H2,Φ2,q1,q2,k2,k3,k4,k7⟩,h3⟩
  |exit j=>
   obtain⟨s2,hs2,h2⟩:=hp2
   obtain⟨md2,hom,⟨k1,k5,k6,k8⟩,h3⟩:=fin hs2 h2
   cases h3
   exact⟨k5,hOw,_,_,rfl,k1,hom⟩
  |ret=>
   obtain⟨s2,hs2,h2⟩:=hp2
   obtain⟨md2,hom,⟨k1,k5,k6,k8⟩,h3⟩:=fin hs2 h2
   cases h3
   exact⟨k5,hOw,_,_,rfl,k1,hom⟩
  |_=>exact hp2.elim
 ·-- all have come
  rintro D O W hD ⟨_,md,hM,hgo⟩ hh
  rw[List.drop_length,heq.1,qbw]at hgo
  cases hgo
  exact hend2 hM ((qa5 _ (λid o hm=>qgT.2 hm)).trans (by rw[qbw])) hD hh
 ·rintro D c O W hD ⟨_,s2,a2,rfl,hM,hom⟩ hh
  exact qnI (hend2 hM hom hD hh)
end
end Go.Vi
