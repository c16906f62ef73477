/- The abstract interpreter 'Vi', forty-first part: contracts that say that a place stays: of a function that keeps what lies at a path of its parameter; of a function that changes what the rows of a value hold. No condition beyond those typed in each theorem. -/
import Derived.Test.YtmlocmhkfnojbaaViC
namespace Go.Vi
def qi1(cfg:jG)(fn:Func)(τ:Ty)(rs:List RTy)(q:List qq)(e:X)(s:St):Option (RDens rs×MDens [.m τ]):=
 match s.get ghId with
 |some (.gh _ (.view id p))=>bif Nat.beq id (pid 0)&&qO p q then qfp cfg fn [.m τ] rs e s else none
 |_=>none
noncomputable def qnb(cfg:jG)(n:Nat)(fn:Func)(c:Code)(kp:qdB)(d:kp.τ.den×Unit):Option (RDens kp.rs×(kp.τ.den×Unit)):=
 run cfg n c ((qcx [.m kp.τ] d).set ghId (.gh 0 (.view (pid 0) kp.q))) (qi1 cfg fn kp.τ kp.rs kp.q)
section
variable {P:Program} {cfg:jG} {w:World} {H:FH}
theorem qoa(hm:P.follows .mixedOrders=true)(hcfg:qu P cfg){f:FuncId}{fn:Func}{c:Code}(hf:P.funcs[f]? = some fn)(hb:fn.body=some c)(hnt:fn.ntmps=cfg.nt)(hl:qax cfg c)(hd:qD cfg c=true)
  {kp:qdB} (hps:1<=cfg.nt) (hq:(qci kp.τ kp.q).isSome=true) (hqs:kp.q.any qq.isI=false) (hg:∀d y,kp.g d=some y->∃n,qnb cfg n fn c kp d=some y):qfV P f kp:=by
 intro d y hy w H vs Φs hok hargs hnd hfr
 obtain⟨n,hn⟩:=hg d y hy
 refine calls_of_wp hf hb ?_
 rw[hnt]
 have hsim:=qd2 hok hargs hnd hfr (nt:=cfg.nt) hps
 have hctx:=qe9 (cfg:=cfg) hargs
 have hargs2:=hargs
 obtain⟨v,vs',φ,Φs',rfl,rfl,hv,hobj,hrest⟩:=hargs2
 obtain⟨rfl,rfl⟩:=hrest
 obtain⟨σ,hσ⟩:=Option.isSome_iff_exists.1 hq
 obtain⟨y0,hy0⟩:=qbm kp.τ d.1 hqs hσ
 obtain⟨_,hndo,blk,t,fp',hh,hrep,hfp⟩:=hobj
 obtain⟨b',o',blk',t',pre',c',post',f1,f0,f2,e1,e2,e3,e4,e5,e6,hl',e7⟩:=qm.desc kp.τ (pre:=[]) (post:=[]) hy0 hrep hh (by simp) (by rw[<-hfp];exact hndo)
 have hloc:jO w kp.τ φ.b 0 kp.q b' o':=hl' w (λ_ _=>rfl)
 obtain⟨u0,hu0⟩:∃u0,u0=jZ σ (seg blk' o' σ.size):=⟨_,rfl⟩
 have huniq:∀u,qfW w kp.τ φ.b kp.q u->u=u0:=by
  rintro u ⟨σ',b2,o2,blk2,t2,g1,g2,g3,rfl⟩
  obtain⟨rfl,rfl⟩:=jO.det _ g2 hloc
  rw[hσ]at g1
  cases g1
  rw[e1]at g3
  cases g3
  exact hu0.symm
 have hsim1:qg P (qgn (λ_=>some u0) w H cfg.nt kp.prim.ps [φ]) ((qcx kp.prim.ps d).set ghId (.gh 0 (.view (pid 0) kp.q))) {tmps:=[v].toArray++Array.replicate (cfg.nt-[v].toArray.size) undef,defers:=[]} w H (λid=>(lk (j9 kp.prim.ps [φ] 0) id).getD (nilI id)):=by
  refine⟨hsim.defers,hsim.size,hsim.le,hsim.hok,hsim.hnew,hsim.mod,?_,hsim.os,hsim.disj,hsim.pins⟩
  intro t av ht
  rw[St.get_set]at ht
  split at ht
  ·cases ht
   refine⟨u0,rfl,⟨false,kp.τ,d.1⟩,⟨σ,y0⟩,rfl,hy0,?_⟩
   simp only[Bool.false_and]
   exact⟨b',o',blk',t',hloc,e1,hu0⟩
  ·have h:=hsim.ts t av ht
   cases t with
   |zero=>cases ht;exact h
   |succ t=>cases ht
 have hC:qz (qgn (λ_=>some u0) w H cfg.nt kp.prim.ps [φ]) cfg:=⟨rfl,hctx.pin⟩
 refine wp_mono (qdc hm hcfg hC c hl hd ⟨H,_,hsim1,trivial⟩ hn) ?_
 have fin:∀(s:St) (a':Act) (w':World),Sim P (qgn (λ_=>some u0) w H cfg.nt kp.prim.ps [φ]) s a' w'->qi1 cfg fn kp.τ kp.rs kp.q .ret s=some y->
   a'.defers=[]/\∃v',(results fn a'.tmps).run P w' = .ok v' w'/\((∃us H' Φs' Ψs,Ending.returned v' = .returned (qap us)/\jM (· ∈qd [φ]) w w'/\H.le H'/\HOk H' w'/\(∀b c,H' b=some c->H b=some c\/b∈qd [φ]\/w.heap.size<=b)/\
    qal P w' H' kp.prim.rs y.1 us Ψs/\jK P w' H' kp.prim.ps y.2 [v] Φs'/\(qd (Ψs++Φs')).Nodup/\∀b∈qd (Ψs++Φs'),H' b=none/\(b∈qd [φ]\/w.heap.size<=b)/\b<w'.heap.size)/\
    ∀φ'∈[φ],∀u,qfW w kp.τ φ'.b kp.q u->qfW w' kp.τ φ'.b kp.q u):=by
  rintro s a' w' ⟨H2,Φ2,hs⟩ h
  unfold qi1 at h
  split at h
  case h_2=>cases h
  rename_i m id p hgh
  cases hc:Nat.beq id (pid 0)&&qO p kp.q with
  |false=>rw[hc]at h;cases h
  |true=>
  rw[hc,cond_true]at h
  rw[Bool.and_eq_true]at hc
  obtain rfl:=Nat.eq_of_beq_eq_true hc.1
  obtain rfl:=qbB hc.2
  obtain⟨k1,v',k2,k3⟩:=fin_ok (p:=kp.prim) hcfg hargs hs h
  refine⟨k1,v',k2,k3,?_⟩
  intro φ' hφ' u hu
  obtain rfl:=List.mem_singleton.1 hφ'
  obtain rfl:=huniq u hu
  obtain⟨u2,hu2,o,y2,g1,g2,g3⟩:=hs.ts ghId _ hgh
  cases hu2
  have hpin:(Φ2 (pid 0)).b=φ'.b:=(hs.pins.1 (pid 0) φ' rfl).1
  have hob:o.row=false/\o.τ=kp.τ:=by
   simp only[qfp,jA,g1]at h
   obtain⟨row,τ,x⟩:=o
   cases row with
   |true=>cases h
   |false=>
    simp only[cond_false]at h
    split at h
    case h_2=>cases h
    rename_i md hmd
    split at hmd
    case h_2=>cases hmd
    rename_i x1 d1 hx1 _
    exact⟨rfl,(qf hx1).1⟩
  obtain⟨row,τ,x⟩:=o
  obtain⟨hr1,hr2⟩:=hob
  simp only at hr1 hr2
  subst hr1
  subst hr2
  simp only[Bool.false_and]at g3
  obtain⟨b3,o3,blk3,t3,g4,g5,g6⟩:=g3
  refine⟨y2.1,b3,o3,blk3,t3,jD _ g2,?_,g5,g6⟩
  have g4:jO w' kp.τ (Φ2 (pid 0)).b 0 kp.q b3 o3:=g4
  rwa[hpin]at g4
 intro e a' w' hp
 have hex:∀i s,qi1 cfg fn kp.τ kp.rs kp.q (.exit i) s=some y->False:=by
  intro i s h
  unfold qi1 at h
  split at h
  case h_2=>cases h
  rename_i m id p hgh
  cases hc:Nat.beq id (pid 0)&&qO p kp.q with
  |false=>rw[hc]at h;cases h
  |true=>rw[hc]at h;cases h
 cases e with
 |normal=>obtain⟨s,hs,h⟩:=hp;exact fin s a' w' hs.sim h
 |ret=>obtain⟨s,hs,h⟩:=hp;exact fin s a' w' hs.sim h
 |exit i=>obtain⟨s,hs,h⟩:=hp;exact(hex i s h).elim
 |_=>exact hp.elim
def qma(P:Program)(f:Nat)(kp:qdB):Prop:=qW P f/\qfV P f kp
theorem qma.good{f:Nat}{kp:qdB}(h:qma P f kp):qZ P f kp.prim:=⟨h.1,h.2.sound⟩
theorem keepOne{f:Nat}{kp:qdB}(h:qma P f kp):∀g m,lk [(f,kp)] g=some m->qW P g/\qfV P g m:=by
 intro g m hm
 rw[jQ]at hm
 cases hb:Nat.beq f g with
 |true=>rw[hb]at hm;cases hm;rw[<-Nat.eq_of_beq_eq_true hb];exact h
 |false=>rw[hb]at hm;cases hm
theorem qj0{fn:Func}(hb:fn.body.isSome=true):fn.body=some (body fn):=by
 unfold body
 cases h:fn.body with
 |none=>rw[h]at hb;cases hb
 |some c=>rfl
theorem fn_doneK(hm:P.follows .mixedOrders=true)(hcfg:qu P cfg){f:FuncId}{fn:Func}(hf:P.funcs[f]? = some fn)(hb:fn.body.isSome=true)(hnt:fn.ntmps=cfg.nt)(hname:(fn.name == "runtime.NumGoroutine")=false)
  {kp:qdB} (hps:Nat.ble 1 cfg.nt=true) (hq:(qci kp.τ kp.q).isSome=true) (hqs:kp.q.any qq.isI=false) (hl:∀b∈qj (body fn),qcZ cfg b) (hd:qD cfg (body fn)=true) (hg:∀d y,kp.g d=some y->∃n,qnb cfg n fn (body fn) kp d=some y):qma P f kp:=
 ⟨qY hf (qj0 hb) hname,qoa hm hcfg hf (qj0 hb) hnt (qbh hl) hd (Nat.le_of_ble_eq_true hps) hq hqs hg⟩
end
end Go.Vi
