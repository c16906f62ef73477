/- The abstract interpreter 'Vi', thirty-ninth part: the contract of a function whose result is a closure. No condition beyond those typed in each theorem. -/
import Derived.Test.YtmlocmhkfnojbaaGreatVi38
namespace Go.Vi
open Go.RowKit
section
variable {P:Program} {C:cM} {aa:jB} {R:Type} {r:R} {s s':St} {a a':Act} {w w':World} {H H':FH} {Φ aU:Nat->qH}
def yE{R:Type}(s:St)(used:List Nat):List AV->(rs:List fk)->(bH rs->Option R)->Option R
 |[],[],k=>k ()
 |a::vs,.v τ::rs,k=>bif apart a.aK used then pU s a τ λx=>yE s (a.aK++used) vs rs λd=>k (x,d)else none
 |a::vs,.iu τ::rs,k=>match a with
  |.ptr id []=>bif j4 id used then none else match s.obj id with
   |some o=>bif o.row then none else qa (qF o.τ τ o.x) λx=>yE s (id::used) vs rs λd=>k (x,d)
   |none=>none
  |_=>none
 |_,_,_=>none
def qnE(fn:Func)(ps:List j3)(f:Nat)(rs:List fk)(e:X)(s:St):Option (bH rs×aV ps):=
 match e with
 |.exit _=>none
 |_=>match jC s ps 0,fn.results.toList with
  |some md,[.tmp t]=>match s.get t with
   |some (.fn g .nil aG)=>bif Nat.beq g f&&aG.aY then yE s (kK ps 0) aG.list rs λd=>some (d,md)else none
   |_=>none
  |_,_=>none
noncomputable def xg(aa:jB)(n:Nat)(fn:Func)(c:Code)(ps:List j3)(f:Nat)(rs:List fk)(d:aI ps):Option (bH rs×aV ps):=
 run aa n c (Ke ps d) (qnE fn ps f rs)
theorem qll(hs:qh P C s a w H Φ):∀{oT:List AV} {us:List Value} {rs:List fk} {used:List Nat} {kk:bH rs->Option R},dl (qi P C w H Φ s.obj) oT us->yE s used oT rs kk=some r->
  ∃T hand:List Nat,(∀id∈T,id∉used)/\hand.Nodup/\(∀id∈hand,id∉used/\id∉T)/\∀Hf,H.le Hf->GG w Hf Φ s.obj T->
   ∃d aJ,kk d=some r/\gv P w Hf rs d us aJ/\(qc aJ).Nodup/\∀b∈qc aJ,∃id∈hand,∃o,s.obj id=some o/\b∈(Φ id).fp
 |[],[],[],used,kk,_,h=>⟨[],[],by simp,by simp,by simp,λHf _ _=>⟨(),[],h,⟨rfl,rfl⟩,by simp[qc],by simp[qc]⟩⟩
 |[],_::_,_,_,_,hr,_=>hr.elim
 |_::_,[],_,_,_,hr,_=>hr.elim
 |[],[],.v _::_,_,_,_,h=>by cases h
 |[],[],.own _ _::_,_,_,_,h=>by cases h
 |[],[],.iu _::_,_,_,_,h=>by cases h
 |[],[],.ir _::_,_,_,_,h=>by cases h
 |[],[],.sure _ _ _::_,_,_,_,h=>by cases h
 |_::_,_::_,[],_,_,_,h=>by cases h
 |_::_,_::_,.own _ _::_,_,_,_,h=>by cases h
 |_::_,_::_,.ir _::_,_,_,_,h=>by cases h
 |_::_,_::_,.sure _ _ _::_,_,_,_,h=>by cases h
 |av::oT,u::us,.v τ::rs,used,kk,hrel,h=>by
  simp only[yE]at h
  have hr:=hrel.1
  cases hap:apart av.aK used with
  |false=>rw[hap]at h;cases h
  |true=>
  rw[hap,cond_true]at h
  rw[qiB]at h
  replace h:=Option.bind_eq_some_iff.1 h
  obtain⟨x,hsn,hx⟩:=h
  obtain⟨T,hand,t1,t2,t3,t4⟩:=qll hs hrel.2 hx
  refine⟨av.aK++T,hand,?_,t2,?_,?_⟩
  ·intro id aF
   rcases List.mem_append.1 aF with aF|aF
   ·exact qky hap aF
   ·exact λhu=>t1 id aF (List.mem_append.2 (.inr hu))
  ·intro id aF
   obtain⟨q1,q2⟩:=t3 id aF
   refine⟨λhu=>q1 (List.mem_append.2 (.inr hu)),λhu=>?_⟩
   rcases List.mem_append.1 hu with hu|hu
   ·exact q1 (List.mem_append.2 (.inl hu))
   ·exact q2 hu
  ·intro Hf hle hf
   obtain⟨hfz,x2,hx2,fV⟩:=ME hs hle (FH.le_refl Hf) (λid aF=>hf id (by simp[aF])) (.inl hr) hsn
   cases hx2
   obtain⟨d,aJ,g1,g3,g4,g5⟩:=t4 Hf hle (λid aF=>hf id (by simp[aF]))
   exact⟨(x,d),qA::aJ,g1,⟨u,us,qA,aJ,rfl,rfl,hfz,rfl,fV,g3⟩,by simpa[qc,qA]using g4,by simpa[qc,qA]using g5⟩
 |av::oT,u::us,.iu τ::rs,used,kk,hrel,h=>by
  simp only[yE]at h
  have hr:=hrel.1
  split at h
  case h_2=>cases h
  rename_i id
  cases hu:j4 id used with
  |true=>rw[hu]at h;cases h
  |false=>
  rw[hu,cond_false]at h
  have IC:id∉used:=λhm=>by rw[Gs.2 hm]at hu;cases hu
  split at h
  case h_2=>cases h
  rename_i o ho
  obtain⟨row,σ,x0⟩:=o
  cases row with
  |true=>cases h
  |false=>
  simp only[cond_false,qj]at h
  replace h:=Option.bind_eq_some_iff.1 h
  obtain⟨x,hx,h⟩:=h
  obtain⟨T,hand,t1,t2,t3,t4⟩:=qll hs hrel.2 h
  have hok:=(hs.os id _ ho).1
  obtain⟨e1,hx⟩:=qg hx
  subst e1
  subst hx
  obtain⟨o2,y2,b,off,q1,_,_,q4,q5⟩:=hr
  rw[ho]at q1
  cases q1
  obtain⟨rfl,rfl⟩:=jT.fN _ q4 (kV w σ (Φ id).b 0)
  refine⟨T,id::hand,λj hj hm=>t1 j hj (List.mem_cons_of_mem _ hm),?_,?_,?_⟩
  ·exact List.nodup_cons.2 ⟨λhm=>(t3 id hm).1 List.mem_cons_self,t2⟩
  ·intro j hj
   rcases List.mem_cons.1 hj with rfl|hj
   ·exact⟨IC,λhm=>t1 j hm List.mem_cons_self⟩
   ·exact⟨λhm=>(t3 j hj).1 (List.mem_cons_of_mem _ hm),(t3 j hj).2⟩
  ·intro Hf hle hf
   obtain⟨d,aJ,g1,g3,g4,g5⟩:=t4 Hf hle hf
   have KZ:qc (Φ id::aJ)=(Φ id).fp++qc aJ:=by simp[qc]
   refine⟨(_,d),Φ id::aJ,g1,⟨u,us,_,aJ,rfl,rfl,q5,hok.frame hle (λ_ _=>rfl),g3⟩,?_,?_⟩
   ·rw[KZ,List.nodup_append]
    refine⟨hok.2.1,g4,?_⟩
    rintro b hb _ hb' rfl
    obtain⟨j,hj,o',ho',dY⟩:=g5 b hb'
    exact hs.aN id j _ o' (by rintro rfl;exact(t3 id hj).1 List.mem_cons_self) ho ho' b hb dY
   ·intro b hb
    rw[KZ]at hb
    rcases List.mem_append.1 hb with hb|hb
    ·exact⟨id,List.mem_cons_self,_,ho,hb⟩
    ·obtain⟨j,hj,o',ho',dY⟩:=g5 b hb
     exact⟨j,List.mem_cons_of_mem _ hj,o',ho',dY⟩
theorem qi5(hm:P.follows .mixedOrders=true)(ae:qx P aa){f:FuncId}{fn:Func}{c:Code}(hf:P.funcs[f]? = some fn)(hb:fn.body=some c)(hnt:fn.ntmps=aa.nt)(hl:pX aa c)(hd:qs aa c=true)
  {m:zb} (hps:m.p.ps.length<=aa.nt) (hg:∀d y,m.p.g d=some y->∃n,xg aa n fn c m.p.ps m.f m.p.rs d=some y):Hi P f m:=by
 intro d y hy w H vs ai hok hargs aq hfr
 obtain⟨n,hn⟩:=hg d y hy
 refine calls_of_wp hf hb ?_
 rw[hnt]
 have bE:=Zn hok hargs aq hfr hps
 have hC:=qhu (aa:=aa) hargs
 obtain⟨_,_,_,h4,_⟩:=vl (C:=sK w H aa.nt m.p.ps ai) 0 hargs
 refine wp_mono (Gd hm ae hC c hl hd ⟨H,_,bE,trivial⟩ hn) ?_
 have fin:∀(s:St) (a':Act) (w':World),dS P (sK w H aa.nt m.p.ps ai) s a' w'->qnE fn m.p.ps m.f m.p.rs .ret s=some y->
   a'.defers=[]/\∃v,(results fn a'.tmps).run P w' = .ok v w'/\∃us H' ag aJ,Ending.returned v = .returned (.func (.func m.f) #[] us.toArray)/\jO (· ∈qc ai) w w'/\H.le H'/\cI H' w'/\(∀b c,H' b=some c->H b=some c\/b∈qc ai\/w.heap.size<=b)/\
    gv P w' H' m.p.rs y.1 us aJ/\jR P w' H' m.p.ps y.2 vs ag/\(qc (aJ++ag)).Nodup/\∀b∈qc (aJ++ag),H' b=none/\(b∈qc ai\/w.heap.size<=b)/\b<w'.heap.size:=by
  rintro s a' w' ⟨H2,jj,hs⟩ h
  simp only[qnE]at h
  split at h
  case h_2=>cases h
  rename_i md t yl hres
  split at h
  case h_2=>cases h
  rename_i g aG cW
  cases hq:Nat.beq g m.f&&aG.aY with
  |false=>rw[hq]at h;cases h
  |true=>
  rw[hq,cond_true]at h
  rw[Bool.and_eq_true]at hq
  obtain⟨hgf,ht⟩:=hq
  obtain rfl:=Nat.eq_of_beq_eq_true hgf
  obtain⟨LK,us,hv,hn0,CG⟩:=hs.ts t _ cW
  have hn0:(Value.tuple LK) = .tuple #[]:=hn0
  cases hn0
  have hrel:dl (qi P _ w' H2 jj s.obj) aG.list us.toList:=sN ht (by simpa using CG)
  obtain⟨T,hand,t1,t2,t3,t4⟩:=qll hs hrel h
  obtain⟨Hf,m1,m2,m3,m4,m5⟩:=qh.aQ T hs
  obtain⟨d',aJ,g1,g3,g4,g5⟩:=t4 Hf m1 m3
  cases g1
  obtain⟨ag,k1,k2,k3⟩:=zn hs m1 (i:=0) hargs (λx hx=>by
   obtain⟨id,φ⟩:=x
   have dN:(sK w H aa.nt m.p.ps ai).gQ id=some φ:=FW h4 hx
   exact hs.pins.1 id φ dN) yl
  have vv:=zm (ps:=m.p.ps) (i:=0)
  have kF:qc (aJ++ag)=qc aJ++qc ag:=by simp[qc]
  have bh:∀id,id∉T->∀o,s.obj id=some o->∀b∈(jj id).fp,Hf b=none/\(b∈qc ai\/w.heap.size<=b)/\b<w'.heap.size:=by
   intro id aF o ho b hb'
   obtain⟨q1,q2,q3⟩:=(hs.os id o ho).2 b hb'
   refine⟨?_,q2,q3⟩
   cases hq:Hf b with
   |none=>rfl
   |some c=>
    rcases m2 b c hq with h1|⟨j,hj,o',ho',dY⟩
    ·rw[q1]at h1;cases h1
    ·exact absurd dY (hs.aN id j o o' (by rintro rfl;exact aF hj) ho ho' b hb')
  have hrun:(results fn a'.tmps).run P w' = .ok (a'.tmps.getD t undef) w':=qe7 (us:=[a'.tmps.getD t undef]) (by rw[hres];exact⟨rfl,trivial⟩)
  refine⟨hs.defers,_,hrun,us.toList,Hf,ag,aJ,by rw[hv],hs.mod,FH.le_trans hs.le m1,m4.hok,m4.hnew,g3,k1,?_,?_⟩
  ·rw[kF,List.nodup_append]
   refine⟨g4,?_,?_⟩
   ·rw[k2]
    refine Hw vv.2 (λid aF=>?_) (λi hi j hj hij b hb'=>?_)
    ·obtain⟨o,ho⟩:=k3 id aF
     exact(hs.os id o ho).1.2.1
    ·obtain⟨o,ho⟩:=k3 i hi
     obtain⟨o',ho'⟩:=k3 j hj
     exact hs.aN i j o o' hij ho ho' b hb'
   ·rintro b kG _ cO rfl
    obtain⟨i,hi,o,ho,yt⟩:=g5 b kG
    rw[k2]at cO
    obtain⟨j,hj,dY⟩:=List.mem_flatMap.1 cO
    obtain⟨o',ho'⟩:=k3 j hj
    exact hs.aN i j o o' (by rintro rfl;exact(t3 i hi).1 hj) ho ho' b yt dY
  ·intro b hb'
   rw[kF]at hb'
   rcases List.mem_append.1 hb' with kG|cO
   ·obtain⟨i,hi,o,ho,yt⟩:=g5 b kG
    exact bh i (t3 i hi).2 o ho b yt
   ·rw[k2]at cO
    obtain⟨j,hj,dY⟩:=List.mem_flatMap.1 cO
    obtain⟨o',ho'⟩:=k3 j hj
    exact bh j (λhT=>t1 j hT hj) o' ho' b dY
 intro e a' w' hp
 cases e with
 |normal=>obtain⟨s,hs,h⟩:=hp;exact fin s a' w' hs.pM h
 |ret=>obtain⟨s,hs,h⟩:=hp;exact fin s a' w' hs.pM h
 |exit i=>obtain⟨s,hs,h⟩:=hp;cases h
 |_=>exact hp.elim
end
end Go.Vi
