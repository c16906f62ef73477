/- The abstract interpreter 'Vi', thirty-ninth part: the contract of a function whose result is a closure. No condition beyond those typed in each theorem. -/
import Derived.Test.YtmlocmhkfnojbaaVi38
namespace Go.Vi
open Go.RowKit
section
variable {P:Program} {C:Ctx} {cfg:jG} {R:Type} {r:R} {s s':St} {a a':Act} {w w':World} {H H':FH} {Φ Φ':Nat->qB}
def capK{R:Type}(s:St)(used:List Nat):List AV->(rs:List RTy)->(RDens rs->Option R)->Option R
 |[],[],k=>k ()
 |a::vs,.v τ::rs,k=>bif apart a.touches used then qb8 s a τ λx=>capK s (a.touches++used) vs rs λd=>k (x,d)else none
 |a::vs,.optr τ::rs,k=>match a with
  |.ptr id []=>bif jY id used then none else match s.obj id with
   |some o=>bif o.row then none else qa (qA o.τ τ o.x) λx=>capK s (id::used) vs rs λd=>k (x,d)
   |none=>none
  |_=>none
 |_,_,_=>none
def qm2(fn:Func)(ps:List jT)(f:Nat)(rs:List RTy)(e:X)(s:St):Option (RDens rs×MDens ps):=
 match e with
 |.exit _=>none
 |_=>match jA s ps 0,fn.results.toList with
  |some md,[.tmp t]=>match s.get t with
   |some (.fn g .nil caps)=>bif Nat.beq g f&&caps.isTup then capK s (qaA ps 0) caps.list rs λd=>some (d,md)else none
   |_=>none
  |_,_=>none
noncomputable def absMk(cfg:jG)(n:Nat)(fn:Func)(c:Code)(ps:List jT)(f:Nat)(rs:List RTy)(d:PDens ps):Option (RDens rs×MDens ps):=
 run cfg n c (qcx ps d) (qm2 fn ps f rs)
theorem qkP(hs:qg P C s a w H Φ):∀{avs:List AV} {us:List Value} {rs:List RTy} {used:List Nat} {kk:RDens rs->Option R},qaa (qh P C w H Φ s.obj) avs us->capK s used avs rs kk=some r->
  ∃T hand:List Nat,(∀id∈T,id∉used)/\hand.Nodup/\(∀id∈hand,id∉used/\id∉T)/\∀Hf,H.le Hf->Fzn w Hf Φ s.obj T->
   ∃d Ψs,kk d=some r/\qal P w Hf rs d us Ψs/\(qd Ψs).Nodup/\∀b∈qd Ψs,∃id∈hand,∃o,s.obj id=some o/\b∈(Φ id).fp
 |[],[],[],used,kk,_,h=>⟨[],[],by simp,by simp,by simp,λHf _ _=>⟨(),[],h,⟨rfl,rfl⟩,by simp[qd],by simp[qd]⟩⟩
 |[],_::_,_,_,_,hr,_=>hr.elim
 |_::_,[],_,_,_,hr,_=>hr.elim
 |[],[],.v _::_,_,_,_,h=>by cases h
 |[],[],.own _ _::_,_,_,_,h=>by cases h
 |[],[],.optr _::_,_,_,_,h=>by cases h
 |[],[],.ownv _::_,_,_,_,h=>by cases h
 |[],[],.sure _ _ _::_,_,_,_,h=>by cases h
 |_::_,_::_,[],_,_,_,h=>by cases h
 |_::_,_::_,.own _ _::_,_,_,_,h=>by cases h
 |_::_,_::_,.ownv _::_,_,_,_,h=>by cases h
 |_::_,_::_,.sure _ _ _::_,_,_,_,h=>by cases h
 |av::avs,u::us,.v τ::rs,used,kk,hrel,h=>by
  simp only[capK]at h
  have hr:=hrel.1
  cases hap:apart av.touches used with
  |false=>rw[hap]at h;cases h
  |true=>
  rw[hap,cond_true]at h
  rw[qh3]at h
  replace h:=Option.bind_eq_some_iff.1 h
  obtain⟨x,hsn,hx⟩:=h
  obtain⟨T,hand,t1,t2,t3,t4⟩:=qkP hs hrel.2 hx
  refine⟨av.touches++T,hand,?_,t2,?_,?_⟩
  ·intro id hid
   rcases List.mem_append.1 hid with hid|hid
   ·exact qj5 hap hid
   ·exact λhu=>t1 id hid (List.mem_append.2 (.inr hu))
  ·intro id hid
   obtain⟨q1,q2⟩:=t3 id hid
   refine⟨λhu=>q1 (List.mem_append.2 (.inr hu)),λhu=>?_⟩
   rcases List.mem_append.1 hu with hu|hu
   ·exact q1 (List.mem_append.2 (.inl hu))
   ·exact q2 hu
  ·intro Hf hle hf
   obtain⟨hfz,x2,hx2,hv2⟩:=qda hs hle (FH.le_refl Hf) (λid hid=>hf id (by simp[hid])) (.inl hr) hsn
   cases hx2
   obtain⟨d,Ψs,g1,g3,g4,g5⟩:=t4 Hf hle (λid hid=>hf id (by simp[hid]))
   exact⟨(x,d),qw::Ψs,g1,⟨u,us,qw,Ψs,rfl,rfl,hfz,rfl,hv2,g3⟩,by simpa[qd,qw]using g4,by simpa[qd,qw]using g5⟩
 |av::avs,u::us,.optr τ::rs,used,kk,hrel,h=>by
  simp only[capK]at h
  have hr:=hrel.1
  split at h
  case h_2=>cases h
  rename_i id
  cases hu:jY id used with
  |true=>rw[hu]at h;cases h
  |false=>
  rw[hu,cond_false]at h
  have hnu:id∉used:=λhm=>by rw[qa6.2 hm]at hu;cases hu
  split at h
  case h_2=>cases h
  rename_i o ho
  obtain⟨row,σ,x0⟩:=o
  cases row with
  |true=>cases h
  |false=>
  simp only[cond_false,qi]at h
  replace h:=Option.bind_eq_some_iff.1 h
  obtain⟨x,hx,h⟩:=h
  obtain⟨T,hand,t1,t2,t3,t4⟩:=qkP hs hrel.2 h
  have hok:=(hs.os id _ ho).1
  obtain⟨e1,hx⟩:=qf hx
  subst e1
  subst hx
  obtain⟨o2,y2,b,off,q1,_,_,q4,q5⟩:=hr
  rw[ho]at q1
  cases q1
  obtain⟨rfl,rfl⟩:=jO.det _ q4 (j6 w σ (Φ id).b 0)
  refine⟨T,id::hand,λj hj hm=>t1 j hj (List.mem_cons_of_mem _ hm),?_,?_,?_⟩
  ·exact List.nodup_cons.2 ⟨λhm=>(t3 id hm).1 List.mem_cons_self,t2⟩
  ·intro j hj
   rcases List.mem_cons.1 hj with rfl|hj
   ·exact⟨hnu,λhm=>t1 j hm List.mem_cons_self⟩
   ·exact⟨λhm=>(t3 j hj).1 (List.mem_cons_of_mem _ hm),(t3 j hj).2⟩
  ·intro Hf hle hf
   obtain⟨d,Ψs,g1,g3,g4,g5⟩:=t4 Hf hle hf
   have hfe:qd (Φ id::Ψs)=(Φ id).fp++qd Ψs:=by simp[qd]
   refine⟨(_,d),Φ id::Ψs,g1,⟨u,us,_,Ψs,rfl,rfl,q5,hok.frame hle (λ_ _=>rfl),g3⟩,?_,?_⟩
   ·rw[hfe,List.nodup_append]
    refine⟨hok.2.1,g4,?_⟩
    rintro b hb _ hb' rfl
    obtain⟨j,hj,o',ho',hbj⟩:=g5 b hb'
    exact hs.disj id j _ o' (by rintro rfl;exact(t3 id hj).1 List.mem_cons_self) ho ho' b hb hbj
   ·intro b hb
    rw[hfe]at hb
    rcases List.mem_append.1 hb with hb|hb
    ·exact⟨id,List.mem_cons_self,_,ho,hb⟩
    ·obtain⟨j,hj,o',ho',hbj⟩:=g5 b hb
     exact⟨j,List.mem_cons_of_mem _ hj,o',ho',hbj⟩
theorem qlu(hm:P.follows .mixedOrders=true)(hcfg:qu P cfg){f:FuncId}{fn:Func}{c:Code}(hf:P.funcs[f]? = some fn)(hb:fn.body=some c)(hnt:fn.ntmps=cfg.nt)(hl:qax cfg c)(hd:qD cfg c=true)
  {m:qeV} (hps:m.p.ps.length<=cfg.nt) (hg:∀d y,m.p.g d=some y->∃n,absMk cfg n fn c m.p.ps m.f m.p.rs d=some y):qeU P f m:=by
 intro d y hy w H vs Φs hok hargs hnd hfr
 obtain⟨n,hn⟩:=hg d y hy
 refine calls_of_wp hf hb ?_
 rw[hnt]
 have hsim:=qd2 hok hargs hnd hfr hps
 have hC:=qe9 (cfg:=cfg) hargs
 obtain⟨_,_,_,h4,_⟩:=qaO (C:=qbG w H cfg.nt m.p.ps Φs) 0 hargs
 refine wp_mono (qdc hm hcfg hC c hl hd ⟨H,_,hsim,trivial⟩ hn) ?_
 have fin:∀(s:St) (a':Act) (w':World),Sim P (qbG w H cfg.nt m.p.ps Φs) s a' w'->qm2 fn m.p.ps m.f m.p.rs .ret s=some y->
   a'.defers=[]/\∃v,(results fn a'.tmps).run P w' = .ok v w'/\∃us H' Φs' Ψs,Ending.returned v = .returned (.func (.func m.f) #[] us.toArray)/\jM (· ∈qd Φs) w w'/\H.le H'/\HOk H' w'/\(∀b c,H' b=some c->H b=some c\/b∈qd Φs\/w.heap.size<=b)/\
    qal P w' H' m.p.rs y.1 us Ψs/\jK P w' H' m.p.ps y.2 vs Φs'/\(qd (Ψs++Φs')).Nodup/\∀b∈qd (Ψs++Φs'),H' b=none/\(b∈qd Φs\/w.heap.size<=b)/\b<w'.heap.size:=by
  rintro s a' w' ⟨H2,Φ2,hs⟩ h
  simp only[qm2]at h
  split at h
  case h_2=>cases h
  rename_i md t hmd hres
  split at h
  case h_2=>cases h
  rename_i g caps hget
  cases hq:Nat.beq g m.f&&caps.isTup with
  |false=>rw[hq]at h;cases h
  |true=>
  rw[hq,cond_true]at h
  rw[Bool.and_eq_true]at hq
  obtain⟨hgf,ht⟩:=hq
  obtain rfl:=Nat.eq_of_beq_eq_true hgf
  obtain⟨vs0,us,hv,hn0,hcaps⟩:=hs.ts t _ hget
  have hn0:(Value.tuple vs0) = .tuple #[]:=hn0
  cases hn0
  have hrel:qaa (qh P _ w' H2 Φ2 s.obj) caps.list us.toList:=qas ht (by simpa using hcaps)
  obtain⟨T,hand,t1,t2,t3,t4⟩:=qkP hs hrel h
  obtain⟨Hf,m1,m2,m3,m4,m5⟩:=qg.freezeAll T hs
  obtain⟨d',Ψs,g1,g3,g4,g5⟩:=t4 Hf m1 m3
  cases g1
  obtain⟨Φs',k1,k2,k3⟩:=qay hs m1 (i:=0) hargs (λx hx=>by
   obtain⟨id,φ⟩:=x
   have hpin:(qbG w H cfg.nt m.p.ps Φs).pin id=some φ:=qfn h4 hx
   exact hs.pins.1 id φ hpin) hmd
  have hids:=qaU (ps:=m.p.ps) (i:=0)
  have hfapp:qd (Ψs++Φs')=qd Ψs++qd Φs':=by simp[qd]
  have hobj:∀id,id∉T->∀o,s.obj id=some o->∀b∈(Φ2 id).fp,Hf b=none/\(b∈qd Φs\/w.heap.size<=b)/\b<w'.heap.size:=by
   intro id hid o ho b hb'
   obtain⟨q1,q2,q3⟩:=(hs.os id o ho).2 b hb'
   refine⟨?_,q2,q3⟩
   cases hq:Hf b with
   |none=>rfl
   |some c=>
    rcases m2 b c hq with h1|⟨j,hj,o',ho',hbj⟩
    ·rw[q1]at h1;cases h1
    ·exact absurd hbj (hs.disj id j o o' (by rintro rfl;exact hid hj) ho ho' b hb')
  have hrun:(results fn a'.tmps).run P w' = .ok (a'.tmps.getD t undef) w':=qeA (us:=[a'.tmps.getD t undef]) (by rw[hres];exact⟨rfl,trivial⟩)
  refine⟨hs.defers,_,hrun,us.toList,Hf,Φs',Ψs,by rw[hv],hs.mod,FH.le_trans hs.le m1,m4.hok,m4.hnew,g3,k1,?_,?_⟩
  ·rw[hfapp,List.nodup_append]
   refine⟨g4,?_,?_⟩
   ·rw[k2]
    refine qa8 hids.2 (λid hid=>?_) (λi hi j hj hij b hb'=>?_)
    ·obtain⟨o,ho⟩:=k3 id hid
     exact(hs.os id o ho).1.2.1
    ·obtain⟨o,ho⟩:=k3 i hi
     obtain⟨o',ho'⟩:=k3 j hj
     exact hs.disj i j o o' hij ho ho' b hb'
   ·rintro b hb1 _ hb2 rfl
    obtain⟨i,hi,o,ho,hbi⟩:=g5 b hb1
    rw[k2]at hb2
    obtain⟨j,hj,hbj⟩:=List.mem_flatMap.1 hb2
    obtain⟨o',ho'⟩:=k3 j hj
    exact hs.disj i j o o' (by rintro rfl;exact(t3 i hi).1 hj) ho ho' b hbi hbj
  ·intro b hb'
   rw[hfapp]at hb'
   rcases List.mem_append.1 hb' with hb1|hb2
   ·obtain⟨i,hi,o,ho,hbi⟩:=g5 b hb1
    exact hobj i (t3 i hi).2 o ho b hbi
   ·rw[k2]at hb2
    obtain⟨j,hj,hbj⟩:=List.mem_flatMap.1 hb2
    obtain⟨o',ho'⟩:=k3 j hj
    exact hobj j (λhT=>t1 j hT hj) o' ho' b hbj
 intro e a' w' hp
 cases e with
 |normal=>obtain⟨s,hs,h⟩:=hp;exact fin s a' w' hs.sim h
 |ret=>obtain⟨s,hs,h⟩:=hp;exact fin s a' w' hs.sim h
 |exit i=>obtain⟨s,hs,h⟩:=hp;cases h
 |_=>exact hp.elim
end
end Go.Vi
