/- reach, plain: what the program's search finds. No condition beyond those typed in each theorem. -/
import Derived.Test.YtmlocmhkfnojbaaD4
namespace Go.Proofs.Try.V.Cv
open Go.Vi Go.Proofs Go.RowKit
set_option maxRecDepth 100000
abbrev qb6:=Int×(Int×(Int×(Int×Int)))
abbrev Lor:=Int×(Int×(Int×(Int×(Int×Int))))
abbrev Atl:=((List Bool)×(List qb6))×Lor
theorem qbx{R:Type}{x:Int}(h1: -1000000<=x)(h2:x<=1000000)(k:Option R):inI x k=k:=by rw[inI_eq,if_pos (by omega)]
theorem dk{α R:Type}(x:α)(k:α->Option R):qa (some x) k=k x:=rfl
section
variable {W:Pt->List Way} {b:Pt} {U:List Pt}
theorem R38_ok(hW:WOK W b U){x:Stp}(hxU:x.1∈U)(N:Nat):∀(rest:List Way) {out:List (Pt×Pt)} {done:List (Pt×Int)} {q:List Stp},Inv W b U out done q (K x.2) x.1 rest->(∀w∈rest,w∈W x.1)->qX done x.1=some 1->qX out x.1=some x.2->x.2.2<(U.countP (isD done):Nat)->
  q.length+rest.length<=100000->out.length+rest.length<=100000->
  ∃out' q',R38_10 N rest ((some out:Option (List (XK×XK))),(some q:Option (List (XK×XK))),x,())=some (.norm,((some out':Option (List (XK×XK))),(some q':Option (List (XK×XK))),()))/\Inv W b U out' done q' (K x.2) x.1 []/\q'.length<=q.length+rest.length/\out'.length<=out.length+rest.length
 |[],out,done,q,h,_,_,_,_,_,_=>⟨out,q,rfl,h,Nat.le_refl _,Nat.le_refl _⟩
 |w::rest,out,done,q,h,hsub,hd,hc,hn,hq,ho=>by
  have hwm:=hsub w List.mem_cons_self
  have hsub':∀w∈rest,w∈W x.1:=λw hw=>hsub w (List.mem_cons_of_mem _ hw)
  have hcost:=hW.cost x.1 hxU w hwm
  have htoU:=hW.to x.1 hxU w hwm
  have hpl:=hW.pl _ htoU
  have okx:=(h.bnd _ _ hc).2
  have hsm:=hW.small
  have hcn:=qi4 U done
  have hKp:=Kpos hW hxU hwm
  have okz:okC (U.countP (isD done)) (qaj x.2 (wc w)):=by unfold okC qaj at *;simp only;omega
  have okz2:okC 100000 (qaj x.2 (wc w)):=okz.mono (by omega)
  simp only[List.length_cons]at hq ho
  have hz:((IntKind.wrap .i64 (x.2.1+w.2.2.2.1)),(IntKind.wrap .i64 (x.2.2+w.2.2.2.2)))=qaj x.2 (wc w):=by
   unfold okC wc at *
   rw[wr (by omega) (by omega),wr (by omega) (by omega)]
   rfl
  have hK:K (qaj x.2 (wc w))=K x.2+K (wc w):=qeW _ _
  have better:(∀old,qX out (wto w)=some old->K x.2+K (wc w)<K old)->∃q1,Hp.gPush q (wto w,qaj x.2 (wc w))=some q1/\q1.length=q.length+1/\∃out' q',R38_10 N rest ((some (qaC out (wto w) (qaj x.2 (wc w))):Option (List (XK×XK))),(some q1:Option (List (XK×XK))),x,())=some (.norm,((some out':Option (List (XK×XK))),(some q':Option (List (XK×XK))),()))/\Inv W b U out' done q' (K x.2) x.1 []/\q'.length<=q.length+(w::rest).length/\out'.length<=out.length+(w::rest).length:=by
   intro hbet
   obtain⟨q1,e1,e2,e3⟩:=gPush_ok h.heap (λy hy=>(h.qb y hy).1.mono (by omega)) (x:=(wto w,qaj x.2 (wc w))) okz2 (by omega)
   have hl1:q1.length=q.length+1:=by rw[e3.length_eq];rfl
   have hne:wto w≠x.1:=λe=>by
    have:=hbet x.2 (by rw[e];exact hc)
    omega
   have hout:=qb2 out (wto w) (qaj x.2 (wc w))
   have hout2:(qaC out (wto w) (qaj x.2 (wc w))).length<=out.length+1:=by rw[hout];split<;>omega
   obtain⟨out',q',r1,r2,r3,r4⟩:=R38_ok hW hxU N rest (h.better hW hd hc hwm rfl hn hbet e2 e3) hsub' hd (by rw[qaq (Ne.symm hne)];exact hc) hn (by omega) (by omega)
   exact⟨q1,e1,hl1,out',q',r1,r2,by simp only[List.length_cons];omega,by simp only[List.length_cons];omega⟩
  show ∃out' q',Q38_10 N (R38_10 N rest) w (some out) (some q) x=_/\_
  unfold Q38_10
  rw[hz,qcf]
  have t1:∀{R:Type} (k:Option R),inI w.2.2.1.1 k=k:=λk=>qbx (by unfold wto at *;omega) (by unfold wto at *;omega) k
  have t2:∀{R:Type} (k:Option R),inI w.2.2.1.2 k=k:=λk=>qbx (by unfold wto at *;omega) (by unfold wto at *;omega) k
  have hL:∀{R:Type} (k:Option R),ql (out.length:Int) k=k:=λk=>by rw[jR,if_pos (by omega)]
  simp only[t1,t2,dk,hL]
  cases ho2:qX out (wto w)with
  |none=>
   obtain⟨q1,e1,_,out',q',r1,r2,r3,r4⟩:=better (λold hold=>by rw[ho2]at hold;cases hold)
   refine⟨out',q',?_,r2,r3,r4⟩
   have ho3:qX out w.2.2.1=none:=ho2
   have e1':Hp.gPush q (w.2.2.1,qaj x.2 (wc w))=some q1:=e1
   simp only[ho3,Option.isSome_none,Bool.not_false,cond_true,e1']
   exact r1
  |some old=>
   have ho3:qX out w.2.2.1=some old:=ho2
   have oko:=(h.bnd _ _ ho2).2
   simp only[ho3,Option.isSome_some,Bool.not_true,cond_false,Option.getD_some]
   rw[g39_eq okz2 (oko.mono (by omega))]
   simp only[dk]
   by_cases hlt:K (qaj x.2 (wc w))<K old
   ·have:Hs.or2 ((qaj x.2 (wc w)).1-old.1) ((qaj x.2 (wc w)).2-old.2)<0:=(qeb okz oko (by omega) (by omega)).2 hlt
    rw[decide_eq_true this,cond_true]
    obtain⟨q1,e1,_,out',q',r1,r2,r3,r4⟩:=better (λold' hold=>by rw[ho2]at hold;cases hold;omega)
    have e1':Hp.gPush q (w.2.2.1,qaj x.2 (wc w))=some q1:=e1
    refine⟨out',q',?_,r2,r3,r4⟩
    simp only[e1']
    exact r1
   ·have:¬Hs.or2 ((qaj x.2 (wc w)).1-old.1) ((qaj x.2 (wc w)).2-old.2)<0:=λhh=>hlt ((qeb okz oko (by omega) (by omega)).1 hh)
    rw[decide_eq_false this,cond_false]
    obtain⟨out',q',r1,r2,r3,r4⟩:=R38_ok hW hxU N rest (h.worse hd hc ho2 (by omega)) hsub' hd hc hn (by omega) (by omega)
    exact⟨out',q',r1,r2,by simp only[List.length_cons];omega,by simp only[List.length_cons];omega⟩
end
theorem qka{a:Atl}{p:Pt}(h:Wy.okW a p){R:Type}(k:List Way->Option R):(qa (Wy.m42.p.g (a,p,())) λy7=>qa y7.1.1 λq8=>qa y7.1.2.1 λq9=>qa (Wy.it59.g (q8,q9,())) λl11=>k l11)=k (Wy.wayL (Wy.pkOf a.1.1 p.1) a.2 p.1 p.2 0 a.1.2):=by
 have e:Wy.it59.g (a,p,())=some (Wy.wayL (Wy.pkOf a.1.1 p.1) a.2 p.1 p.2 0 a.1.2):=by
  show(open Classical in if Wy.okW a p then some (Wy.wayL (Wy.pkOf a.1.1 p.1) a.2 p.1 p.2 0 a.1.2:List Way)else none)=_
  rw[if_pos h]
 show(qa (Wy.it59.g (a,p,())) λl11=>k l11)=_
 rw[e]
 rfl
def qQ(a:Atl)(p:Pt):List Way:=Wy.wayL (Wy.pkOf a.1.1 p.1) a.2 p.1 p.2 0 a.1.2
section
variable {a:Atl} {b:Pt} {U:List Pt}
theorem L38_ok(hW:WOK (qQ a) b U)(hok:∀p∈U,Wy.okW a p):∀(m:Nat) {out:List (Pt×Pt)} {done:List (Pt×Int)} {q:List Stp} {lev:Int} {x:Pt},Inv (qQ a) b U out done q lev x []->(400-U.countP (isD done))*17+q.length<m->
  q.length<=1+20*U.countP (isD done)->out.length<=1+20*U.countP (isD done)->done.length<=U.countP (isD done)->
  ∃out',L38_5 m ((a,()),((some out:Option (List (XK×XK))),(some q:Option (List (XK×XK))),(some done:Option (List (XK×Int))),()),())=some ((),((some out':Option (List (XK×XK))),()),())/\Fin (qQ a) b U out'
 |0,_,_,_,_,_,_,hm,_,_,_=>by omega
 |m+1,out,done,q,lev,x,h,hm,hq,ho,hdl=>by
  have hsm:=hW.small
  have hcn:=qi4 U done
  show ∃out',B38_5 m (L38_5 m) a (some out) (some q) (some done)=_/\_
  unfold B38_5
  simp only[dk]
  by_cases hne:q=[]
  ·subst hne
   exact⟨out,rfl,h.fin hW⟩
  ·have hpos:=List.length_pos_iff.2 hne
   rw[decide_eq_true (by omega),cond_true]
   obtain⟨y,q1,e1,e2,e3,e4⟩:=gPop_ok h.heap (λz hz=>(h.qb z hz).1.mono (by omega)) hne (by omega)
   have hl1:q.length=q1.length+1:=by rw[e3.length_eq];rfl
   rw[e1]
   simp only[dk]
   have hy:y∈q:=e3.mem_iff.2 List.mem_cons_self
   have hyU:y.1∈U:=by
    obtain⟨_,c,hc,_⟩:=h.qb y hy
    exact(h.bnd _ _ hc).1
   have hpl:=hW.pl _ hyU
   rw[qbx (by omega) (by omega),qbx (by omega) (by omega)]
   by_cases hd:qX done y.1=some 1
   ·rw[hd]
    simp only[Option.getD_some,beq_self_eq_true,cond_true]
    exact L38_ok hW hok m (h.skip e2 e3 hd) (by omega) (by omega) ho hdl
   ·have hd0:((qX done y.1).getD (0:Int)==1)=false:=by
     cases hh:qX done y.1 with
     |none=>rfl
     |some v=>
      have:=h.dones _ _ hh
      subst this
      exact absurd hh hd
    rw[hd0,cond_false,qbx (by omega) (by omega),qbx (by omega) (by omega),jR,if_pos (by omega)]
    obtain⟨i1,i2,i3,i4,i5⟩:=h.take hW e2 e3 e4 hd
    have hcn':=qi4 U (qaC done y.1 1)
    have hlen:=hW.len y.1 hyU
    rw[qka (hok _ hyU) (λl11=>qa (R38_10 m l11 (some out,some q1,y,())) λo10=>cond (X.same .norm o10.1) (L38_5 m ((a,()),(o10.2.1,o10.2.2.1,(some (qaC done y.1 1)),()),())) (none))]
    obtain⟨out',q',r1,r2,r3,r4⟩:=R38_ok hW hyU m (qQ a y.1) i1 (λ_ h=>h) (qac _ _ _) i2 (by unfold okC at i4;omega) (by omega) (by omega)
    have r1':R38_10 m (Wy.wayL (Wy.pkOf a.1.1 y.1.1) a.2 y.1.1 y.1.2 0 a.1.2) (some out,some q1,y,())=_:=r1
    rw[r1']
    simp only[dk,X.same,cond_true]
    have hpd:=qb2 done y.1 (1:Int)
    have hpd2:(qaC done y.1 (1:Int)).length<=done.length+1:=by rw[hpd];split<;>omega
    exact L38_ok hW hok m r2 (by omega) (by omega) (by omega) (by omega)
theorem g38_ok(hW:WOK (qQ a) (a.2.2.2.1,0) U)(hok:∀p∈U,Wy.okW a p):∃out,g38 (a,())=some (((some out:Option (List (XK×XK))),()),())/\Fin (qQ a) (a.2.2.2.1,0) U out:=by
 have hpl:=hW.pl _ hW.beg
 simp only at hpl
 unfold g38 F38
 simp only[dk]
 rw[qbx (by omega) (by omega),qbx (by omega) (by omega),jR,if_pos (by simp),qcf]
 have h0:U.countP (isD ([]:List (Pt×Int)))=0:=by
  rw[List.countP_eq_zero]
  intro p _ hp
  rw[qhL]at hp
  cases hp
 obtain⟨out,e,hF⟩:=L38_ok hW hok qn (Inv.start hW (a.2.2.2.1,0)) (by rw[h0];unfold qn;simp) (by simp) (by simp[qaC]) (by simp)
 refine⟨out,?_,hF⟩
 rw[e]
 rfl
end
end Go.Proofs.Try.V.Cv
