/- reach, plain: what the program's search finds. No condition beyond those typed in each theorem. -/
import Derived.Test.YtmlocmhkfnojbaaGreatD4
namespace Go.Proofs.Tryz.V.Cv
open Go.Vi Go.Proofs Go.RowKit
set_option maxRecDepth 100000
abbrev nN:=Int×(Int×(Int×(Int×Int)))
abbrev nG:=Int×(Int×(Int×(Int×(Int×Int))))
abbrev uT:=((List Bool)×(List nN))×nG
theorem rV{R:Type}{x:Int}(h1: -1000000<=x)(h2:x<=1000000)(k:Option R):dR x k=k:=by rw[YJ,if_pos (by omega)]
theorem dk{α R:Type}(x:α)(k:α->Option R):qa (some x) k=k x:=rfl
section
variable {W:Pt->List Way} {b:Pt} {U:List Pt}
theorem vK(hW:lB W b U){x:bG}(KF:x.1∈U)(N:Nat):∀(rest:List Way) {out:List (Pt×Pt)} {done:List (Pt×Int)} {q:List bG},Inv W b U out done q (K x.2) x.1 rest->(∀w∈rest,w∈W x.1)->jE done x.1=some 1->jE out x.1=some x.2->x.2.2<(U.countP (oJ done):Nat)->
  q.length+rest.length<=100000->out.length+rest.length<=100000->
  ∃out' q',gC N rest ((some out:Option (List (XK×XK))),(some q:Option (List (XK×XK))),x,())=some (.norm,((some out':Option (List (XK×XK))),(some q':Option (List (XK×XK))),()))/\Inv W b U out' done q' (K x.2) x.1 []/\q'.length<=q.length+rest.length/\out'.length<=out.length+rest.length
 |[],out,done,q,h,_,_,_,_,_,_=>⟨out,q,rfl,h,Nat.le_refl _,Nat.le_refl _⟩
 |w::rest,out,done,q,h,hsub,hd,hc,hn,hq,ho=>by
  have nV:=hsub w List.mem_cons_self
  have KG:∀w∈rest,w∈W x.1:=λw hw=>hsub w (List.mem_cons_of_mem _ hw)
  have fZ:=hW.cost x.1 KF w nV
  have Cf:=hW.to x.1 KF w nV
  have eR:=hW.pl _ Cf
  have okx:=(h.fP _ _ hc).2
  have oK:=hW.small
  have hcn:=TH U done
  have hKp:=Fc hW KF nV
  have Ni:cT (U.countP (oJ done)) (dG x.2 (wc w)):=by unfold cT dG at *;simp only;omega
  have UW:cT 100000 (dG x.2 (wc w)):=Ni.mono (by omega)
  simp only[List.length_cons]at hq ho
  have hz:((IntKind.wrap .i64 (x.2.1+w.2.2.2.1)),(IntKind.wrap .i64 (x.2.2+w.2.2.2.2)))=dG x.2 (wc w):=by
   unfold cT wc at *
   rw[wr (by omega) (by omega),wr (by omega) (by omega)]
   rfl
  have hK:K (dG x.2 (wc w))=K x.2+K (wc w):=AR _ _
  have rJ:(∀old,jE out (dw w)=some old->K x.2+K (wc w)<K old)->∃q1,Hp.g_ q (dw w,dG x.2 (wc w))=some q1/\q1.length=q.length+1/\∃out' q',gC N rest ((some (ep out (dw w) (dG x.2 (wc w))):Option (List (XK×XK))),(some q1:Option (List (XK×XK))),x,())=some (.norm,((some out':Option (List (XK×XK))),(some q':Option (List (XK×XK))),()))/\Inv W b U out' done q' (K x.2) x.1 []/\q'.length<=q.length+(w::rest).length/\out'.length<=out.length+(w::rest).length:=by
   intro kQ
   obtain⟨q1,e1,e2,e3⟩:=CV h.heap (λy hy=>(h.qb y hy).1.mono (by omega)) (x:=(dw w,dG x.2 (wc w))) UW (by omega)
   have Cw:q1.length=q.length+1:=by rw[e3.length_eq];rfl
   have hne:dw w≠x.1:=λe=>by
    have:=kQ x.2 (by rw[e];exact hc)
    omega
   have hout:=RN out (dw w) (dG x.2 (wc w))
   have acf:(ep out (dw w) (dG x.2 (wc w))).length<=out.length+1:=by rw[hout];split<;>omega
   obtain⟨out',q',r1,r2,r3,r4⟩:=vK hW KF N rest (h.rJ hW hd hc nV rfl hn kQ e2 e3) KG hd (by rw[HG (Ne.symm hne)];exact hc) hn (by omega) (by omega)
   exact⟨q1,e1,Cw,out',q',r1,r2,by simp only[List.length_cons];omega,by simp only[List.length_cons];omega⟩
  show ∃out' q',vL N (gC N rest) w (some out) (some q) x=_/\_
  unfold vL
  rw[hz,Hr]
  have t1:∀{R:Type} (k:Option R),dR w.2.2.1.1 k=k:=λk=>rV (by unfold dw at *;omega) (by unfold dw at *;omega) k
  have t2:∀{R:Type} (k:Option R),dR w.2.2.1.2 k=k:=λk=>rV (by unfold dw at *;omega) (by unfold dw at *;omega) k
  have hL:∀{R:Type} (k:Option R),qo (out.length:Int) k=k:=λk=>by rw[jQ,if_pos (by omega)]
  simp only[t1,t2,dk,hL]
  cases df:jE out (dw w)with
  |none=>
   obtain⟨q1,e1,_,out',q',r1,r2,r3,r4⟩:=rJ (λold hold=>by rw[df]at hold;cases hold)
   refine⟨out',q',?_,r2,r3,r4⟩
   have Co:jE out w.2.2.1=none:=df
   have Di:Hp.g_ q (w.2.2.1,dG x.2 (wc w))=some q1:=e1
   simp only[Co,Option.isSome_none,Bool.not_false,cond_true,Di]
   exact r1
  |some old=>
   have Co:jE out w.2.2.1=some old:=df
   have oko:=(h.fP _ _ df).2
   simp only[Co,Option.isSome_some,Bool.not_true,cond_false,Option.getD_some]
   rw[ki UW (oko.mono (by omega))]
   simp only[dk]
   by_cases hlt:K (dG x.2 (wc w))<K old
   ·have:Hs.oE ((dG x.2 (wc w)).1-old.1) ((dG x.2 (wc w)).2-old.2)<0:=(Hj Ni oko (by omega) (by omega)).2 hlt
    rw[decide_eq_true this,cond_true]
    obtain⟨q1,e1,_,out',q',r1,r2,r3,r4⟩:=rJ (λold' hold=>by rw[df]at hold;cases hold;omega)
    have Di:Hp.g_ q (w.2.2.1,dG x.2 (wc w))=some q1:=e1
    refine⟨out',q',?_,r2,r3,r4⟩
    simp only[Di]
    exact r1
   ·have:¬Hs.oE ((dG x.2 (wc w)).1-old.1) ((dG x.2 (wc w)).2-old.2)<0:=λhh=>hlt ((Hj Ni oko (by omega) (by omega)).1 hh)
    rw[decide_eq_false this,cond_false]
    obtain⟨out',q',r1,r2,r3,r4⟩:=vK hW KF N rest (h.SO hd hc df (by omega)) KG hd hc hn (by omega) (by omega)
    exact⟨out',q',r1,r2,by simp only[List.length_cons];omega,by simp only[List.length_cons];omega⟩
end
theorem qkC{a:uT}{p:Pt}(h:Wy.okW a p){R:Type}(k:List Way->Option R):(qa (Wy.Nn.p.g (a,p,())) λy7=>qa y7.1.1 λq8=>qa y7.1.2.1 λq9=>qa (Wy.nU.g (q8,q9,())) λIr=>k Ir)=k (Wy.dx (Wy.jy a.1.1 p.1) a.2 p.1 p.2 0 a.1.2):=by
 have e:Wy.nU.g (a,p,())=some (Wy.dx (Wy.jy a.1.1 p.1) a.2 p.1 p.2 0 a.1.2):=by
  show(open Classical in if Wy.okW a p then some (Wy.dx (Wy.jy a.1.1 p.1) a.2 p.1 p.2 0 a.1.2:List Way)else none)=_
  rw[if_pos h]
 show(qa (Wy.nU.g (a,p,())) λIr=>k Ir)=_
 rw[e]
 rfl
def jP(a:uT)(p:Pt):List Way:=Wy.dx (Wy.jy a.1.1 p.1) a.2 p.1 p.2 0 a.1.2
section
variable {a:uT} {b:Pt} {U:List Pt}
theorem vR(hW:lB (jP a) b U)(hok:∀p∈U,Wy.okW a p):∀(m:Nat) {out:List (Pt×Pt)} {done:List (Pt×Int)} {q:List bG} {sV:Int} {x:Pt},Inv (jP a) b U out done q sV x []->(400-U.countP (oJ done))*17+q.length<m->
  q.length<=1+20*U.countP (oJ done)->out.length<=1+20*U.countP (oJ done)->done.length<=U.countP (oJ done)->
  ∃out',pw m ((a,()),((some out:Option (List (XK×XK))),(some q:Option (List (XK×XK))),(some done:Option (List (XK×Int))),()),())=some ((),((some out':Option (List (XK×XK))),()),())/\Fin (jP a) b U out'
 |0,_,_,_,_,_,_,hm,_,_,_=>by omega
 |m+1,out,done,q,sV,x,h,hm,hq,ho,mG=>by
  have oK:=hW.small
  have hcn:=TH U done
  show ∃out',Fu m (pw m) a (some out) (some q) (some done)=_/\_
  unfold Fu
  simp only[dk]
  by_cases hne:q=[]
  ·subst hne
   exact⟨out,rfl,h.fin hW⟩
  ·have hpos:=List.length_pos_iff.2 hne
   rw[decide_eq_true (by omega),cond_true]
   obtain⟨y,q1,e1,e2,e3,e4⟩:=I_ h.heap (λz hz=>(h.qb z hz).1.mono (by omega)) hne (by omega)
   have Cw:q.length=q1.length+1:=by rw[e3.length_eq];rfl
   rw[e1]
   simp only[dk]
   have hy:y∈q:=e3.mem_iff.2 List.mem_cons_self
   have hyU:y.1∈U:=by
    obtain⟨_,c,hc,_⟩:=h.qb y hy
    exact(h.fP _ _ hc).1
   have eR:=hW.pl _ hyU
   rw[rV (by omega) (by omega),rV (by omega) (by omega)]
   by_cases hd:jE done y.1=some 1
   ·rw[hd]
    simp only[Option.getD_some,beq_self_eq_true,cond_true]
    exact vR hW hok m (h.skip e2 e3 hd) (by omega) (by omega) ho mG
   ·have hd0:((jE done y.1).getD (0:Int)==1)=false:=by
     cases hh:jE done y.1 with
     |none=>rfl
     |some v=>
      have:=h.mM _ _ hh
      subst this
      exact absurd hh hd
    rw[hd0,cond_false,rV (by omega) (by omega),rV (by omega) (by omega),jQ,if_pos (by omega)]
    obtain⟨i1,i2,i3,i4,i5⟩:=h.take hW e2 e3 e4 hd
    have acs:=TH U (ep done y.1 1)
    have hlen:=hW.len y.1 hyU
    rw[qkC (hok _ hyU) (λIr=>qa (gC m Ir (some out,some q1,y,())) λrY=>cond (X.same .norm rY.1) (pw m ((a,()),(rY.2.1,rY.2.2.1,(some (ep done y.1 1)),()),())) (none))]
    obtain⟨out',q',r1,r2,r3,r4⟩:=vK hW hyU m (jP a y.1) i1 (λ_ h=>h) (Bd _ _ _) i2 (by unfold cT at i4;omega) (by omega) (by omega)
    have Me:gC m (Wy.dx (Wy.jy a.1.1 y.1.1) a.2 y.1.1 y.1.2 0 a.1.2) (some out,some q1,y,())=_:=r1
    rw[Me]
    simp only[dk,X.same,cond_true]
    have hpd:=RN done y.1 (1:Int)
    have aco:(ep done y.1 (1:Int)).length<=done.length+1:=by rw[hpd];split<;>omega
    exact vR hW hok m r2 (by omega) (by omega) (by omega) (by omega)
theorem Ou(hW:lB (jP a) (a.2.2.2.1,0) U)(hok:∀p∈U,Wy.okW a p):∃out,SB (a,())=some (((some out:Option (List (XK×XK))),()),())/\Fin (jP a) (a.2.2.2.1,0) U out:=by
 have eR:=hW.pl _ hW.vH
 simp only at eR
 unfold SB F54
 simp only[dk]
 rw[rV (by omega) (by omega),rV (by omega) (by omega),jQ,if_pos (by simp),Hr]
 have h0:U.countP (oJ ([]:List (Pt×Int)))=0:=by
  rw[List.countP_eq_zero]
  intro p _ hp
  rw[YS]at hp
  cases hp
 obtain⟨out,e,hF⟩:=vR hW hok qk (Inv.start hW (a.2.2.2.1,0)) (by rw[h0];unfold qk;simp) (by simp) (by simp[ep]) (by simp)
 refine⟨out,?_,hF⟩
 rw[e]
 rfl
end
end Go.Proofs.Tryz.V.Cv
