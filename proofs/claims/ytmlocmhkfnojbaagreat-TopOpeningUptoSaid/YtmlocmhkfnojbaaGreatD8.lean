/- drive, plain: it ends, and its legs are small. No condition beyond those typed in each theorem. -/
import Derived.Test.YtmlocmhkfnojbaaGreatD7
namespace Go.Proofs.Tryz.V.Cv
open Go.Vi Go.Proofs Go.RowKit
set_option maxRecDepth 100000
section
variable {a:uT} {b:Pt} {U:List Pt} {out:List (Pt×Pt)} {to:Int} {best:Pt}
theorem vT(hW:lB (jP a) b U)(hok:∀p∈U,Wy.okW a p)(hF:Fin (jP a) b U out)(hB:Fg out to best){o4:List sv}{ys:List Pt}(hlen:ys.length<=400)(aq:ys.Nodup)
  (hmem:∀p,p∈ys↔∃c,jE out p=some c/\K c<=K best) (hsort:ys.Pairwise λx y=>∀c d,jE out x=some c->jE out y=some d->K d<=K c):
  ∀(m i:Nat) {left:List (Pt×Pt)},i<=ys.length->ys.length<m+i->uA (jP a) out to best left (ys.take i)->
  ∃left',gH m ((to,a,(ys.length:Int),(i:Int),()),(o4,(some left:Option (List (XK×XK))),ys,()),())=some ((to,a,()),(o4,(some left':Option (List (XK×XK))),()),())/\uA (jP a) out to best left' ys
 |0,_,_,_,h,_=>by omega
 |m+1,i,left,hi,hm,hL=>by
  show ∃left',vZ m (gH m) to a (ys.length:Int) (i:Int) o4 (some left) ys=_/\_
  unfold vZ
  by_cases hlt:i<ys.length
  ·rw[decide_eq_true (by omega),cond_true,kw (by omega) (by omega)]
   have hg:ys[i]? = some ys[i]:=List.getElem?_eq_getElem hlt
   obtain⟨p,hp⟩:∃p,p=ys[i]:=⟨_,rfl⟩
   have hgi:∀{R:Type} (k:Pt->Option R),qn ys (i:Int) k=k p:=λk=>by
    unfold qn
    rw[if_pos (by omega),Int.toNat_natCast,hg,hp]
   rw[hgi]
   have hpm:p∈ys:=by rw[hp];exact List.getElem_mem hlt
   obtain⟨f,hf,hfb⟩:=(hmem p).1 hpm
   have oL:=(hF.fP p f hf).1
   have eR:=hW.pl _ oL
   have htl:(ys.take i).length=i:=by rw[List.length_take];omega
   have wP:ys.take (i+1)=ys.take i++[p]:=by rw[hp];exact List.take_succ_eq_append_getElem hlt
   have uM:p∉ys.take i:=λhh=>by
    obtain⟨j,hj,e⟩:=List.getElem_of_mem hh
    rw[htl]at hj
    rw[List.getElem_take,hp]at e
    exact absurd e ((List.pairwise_iff_getElem.1 aq) j i (by omega) hlt hj)
   have IF:=hL.len
   have hL1:qo (left.length:Int)=λ(k:Option (((Int×uT×Unit)×((List sv)×(Option (List (XK×XK)))×Unit)×Unit)))=>k:=by
    funext k
    rw[jQ,if_pos (by omega)]
   have Sc:IntKind.wrap .i64 ((i:Int)+1)=((i+1:Nat):Int):=by rw[wr (by omega) (by omega)];omega
   by_cases ht:p.1=to
   ·rw[show(p.1==to)=true from beq_iff_eq.2 ht,cond_true,rV (by omega) (by omega),rV (by omega) (by omega)]
    simp only[dk,Sc]
    rw[jQ,if_pos (by omega)]
    exact vT hW hok hF hB hlen aq hmem hsort m (i+1) (by omega) (by omega) (by rw[wP];exact hL.stop hW hF hB uM hf ht)
   ·rw[show(p.1==to)=false from beq_eq_false_iff_ne.2 ht,cond_false]
    rw[qkC (hok _ oL) (λKA=>qa (gE m KA (some left,p,())) λNk=>cond (X.same .norm Nk.1) (gH m ((to,a,(ys.length:Int),(IntKind.wrap .i64 ((i:Int)+1)),()),(o4,Nk.2.1,ys,()),())) (none))]
    obtain⟨left',r1,r2⟩:=rM hW hF hL (by omega) hf uM m (jP a p) [] (wo.start hL uM) rfl
    have Me:gE m (Wy.dx (Wy.jy a.1.1 p.1) a.2 p.1 p.2 0 a.1.2) (some left,p,())=_:=r1
    rw[Me]
    simp only[dk,X.same,cond_true,Sc]
    refine vT hW hok hF hB hlen aq hmem hsort m (i+1) (by omega) (by omega) ?_
    rw[wP]
    refine r2.done hW hF hL uM hf ht λq c hq NF hqf=>?_
    have hqm:q∈ys:=(hmem q).2 ⟨c,hq,NF⟩
    obtain⟨j,hj,e⟩:=List.getElem_of_mem hqm
    rw[List.mem_iff_getElem]
    rcases Nat.lt_or_ge j i with h|h
    ·exact⟨j,by rw[htl];exact h,by rw[List.getElem_take];exact e⟩
    ·rcases Nat.lt_or_ge i j with h2|h2
     ·have:=(List.pairwise_iff_getElem.1 hsort) i j hlt hj h2 f c (by rw[<-hp];exact hf) (by rw[e];exact hq)
      omega
     ·have hij:j=i:=by omega
      subst hij
      rw[<-hp]at e
      subst e
      rw[hf]at hq
      cases hq
      omega
  ·rw[decide_eq_false (by omega),cond_false]
   have:i=ys.length:=by omega
   rw[this,List.take_length]at hL
   exact⟨left,rfl,hL⟩
theorem DW(hW:lB (jP a) b U)(hF:Fin (jP a) b U out){left:List (Pt×Pt)}{seen:List Pt}(hL:uA (jP a) out to best left seen)(mA:seen.length<=400)(hall:∀q,lK (jP a) out to best q->q∈seen){p:Pt}(hg:lK (jP a) out to best p)
  (mC:∀w∈jP a p,0<=w.2.1/\w.2.1<=1000) {now:Int} (hn0:0<=now) (KQ:now<=1000000000) {j:List sv} (hj:j.length<=1000000) (N:Nat) {w:Way}:∀(rest:List Way),(∀w∈rest,w∈jP a p)->
  (open Classical in rest.find? (λw=>decide (Xx (jP a) out to best p w)))=some w->gD N rest (j,(some left:Option (List (XK×XK))),p,now,())=some (.exit 8,(j++[(w.1,now+w.2.1)],(some left:Option (List (XK×XK))),dw w,now+(wc w).1,()))
 |[],_,h=>by cases h
 |v::rest,hsub,h=>by
  classical
  have hvm:=hsub v List.mem_cons_self
  obtain⟨lp,f,hlp,hf,acv⟩:=hL.comp p (hall p hg) hg
  have oL:=(hF.fP p f hf).1
  have fZ:=hW.cost p oL v hvm
  have Cf:=hW.to p oL v hvm
  have eR:=hW.pl _ Cf
  have aaZ:=hW.pl _ oL
  have hr:=mC v hvm
  have olp:=(hL.key p lp hlp).2.1
  have hsel:=GU hW hF hL mA hall hg hlp hvm
  show vM N (gD N rest) v j (some left) p now=_
  unfold vM
  have t1:∀{R:Type} (k:Option R),dR v.2.2.1.1 k=k:=λk=>rV (by unfold dw at *;omega) (by unfold dw at *;omega) k
  have t2:∀{R:Type} (k:Option R),dR v.2.2.1.2 k=k:=λk=>rV (by unfold dw at *;omega) (by unfold dw at *;omega) k
  have t3:∀{R:Type} (k:Option R),dR p.1 k=k:=λk=>rV (by omega) (by omega) k
  have t4:∀{R:Type} (k:Option R),dR p.2 k=k:=λk=>rV (by omega) (by omega) k
  have acq:jE left (p.1,p.2)=some lp:=hlp
  simp only[t1,t2,t3,t4,dk,hlp,Option.getD_some]
  rw[List.find?_cons]at h
  have go:¬Xx (jP a) out to best p v->gD N rest (j,(some left:Option (List (XK×XK))),p,now,())=some (.exit 8,(j++[(w.1,now+w.2.1)],(some left:Option (List (XK×XK))),dw w,now+(wc w).1,())):=λiK=>by
   rw[decide_eq_false iK]at h
   exact DW hW hF hL mA hall hg mC hn0 KQ hj N rest (λw hw=>hsub w (List.mem_cons_of_mem _ hw)) h
  cases df:jE left (dw v)with
  |none=>
   have Co:jE left v.2.2.1=none:=df
   simp only[Co,Option.isSome_none,Bool.not_false,cond_true]
   exact go λhs=>by
    obtain⟨l,hl,_⟩:=hsel.2 hs
    rw[df]at hl
    cases hl
  |some l=>
   have Co:jE left v.2.2.1=some l:=df
   have ol:=(hL.key _ l df).2.1
   have hz1:(IntKind.wrap .i64 (l.1+v.2.2.2.1))=(dG l (wc v)).1:=by
    unfold cT wc at *
    rw[wr (by omega) (by omega)]
    rfl
   have KD:(IntKind.wrap .i64 (l.2+1))=(dG l (wc v)).2:=by
    unfold cT at *
    rw[wr (by omega) (by omega)]
    unfold dG
    rw[fZ.2.2]
   simp only[Co,Option.isSome_some,Bool.not_true,cond_false,Option.getD_some,hz1,KD]
   by_cases hs:Xx (jP a) out to best p v
   ·obtain⟨l',hl',heq⟩:=hsel.2 hs
    rw[df]at hl'
    cases hl'
    rw[decide_eq_true hs]at h
    cases h
    rw[heq]
    simp only[beq_self_eq_true,Bool.and_self,Bool.not_true,cond_false]
    rw[jQ,if_pos (by simp only[List.length_cons,List.length_nil];omega)]
    rw[wr (by omega) (by omega),wr (by unfold wc at fZ;omega) (by unfold wc at fZ;omega)]
    rfl
   ·have hne:dG l (wc v)≠lp:=λe=>hs (hsel.1 ⟨l,df,e⟩)
    have:(((dG l (wc v)).1==lp.1)&&((dG l (wc v)).2==lp.2))=false:=by
     cases hh:(((dG l (wc v)).1==lp.1)&&((dG l (wc v)).2==lp.2))with
     |false=>rfl
     |true=>
      rw[Bool.and_eq_true,beq_iff_eq,beq_iff_eq]at hh
      exact absurd (Prod.ext hh.1 hh.2) hne
    rw[this]
    simp only[Bool.not_false,cond_true]
    exact go hs
theorem EP(hW:lB (jP a) b U)(hok:∀p∈U,Wy.okW a p)(hF:Fin (jP a) b U out){left:List (Pt×Pt)}{seen:List Pt}(hL:uA (jP a) out to best left seen)(mA:seen.length<=400)(hall:∀q,lK (jP a) out to best q->q∈seen)
  (mC:∀p∈U,∀w∈jP a p,0<=w.2.1/\w.2.1<=1000):∀(m n:Nat) {p:Pt} {now:Int} {j r:List sv},m<=n->lK (jP a) out to best p->0<=now->now+1000*m<=1000000000->j.length+m<=1000000->jr (jP a) out to best m p now j=some r->
  gG n ((to,a,()),(j,(some left:Option (List (XK×XK))),p,now,()),())=some ((),(r,()),())
 |0,_,_,_,_,_,_,_,_,_,_,h=>by cases h
 |m+1,0,_,_,_,_,hmn,_,_,_,_,_=>by omega
 |m+1,n+1,p,now,j,r,hmn,hg,h0,h1,h2,h=>by
  show vY n (gG n) to a j (some left) p now=_
  unfold vY
  unfold jr at h
  obtain⟨c,hc,_⟩:=hg.le hW hF
  have oL:=(hF.fP _ _ hc).1
  split at h
  ·rename_i ht
   cases h
   rw[show(p.1 !=to)=false by simp[ht],cond_false]
  ·rename_i ht
   rw[show(p.1 !=to)=true by simp[ht],cond_true]
   split at h
   ·cases h
   ·rename_i w hfind
    rw[qkC (hok _ oL) (λl21=>qa (gD n l21 (j,some left,p,now,())) λkL=>cond (X.same .norm kL.1) (gG n ((to,a,()),(kL.2.1,kL.2.2.1,kL.2.2.2.1,kL.2.2.2.2.1,()),())) (cond (X.same (.exit 8) kL.1) (gG n ((to,a,()),(kL.2.1,kL.2.2.1,kL.2.2.2.1,kL.2.2.2.2.1,()),())) (none)))]
    have r1:=DW hW hF hL mA hall hg (mC p oL) h0 (by omega) (j:=j) (by omega) n (w:=w) (jP a p) (λ_ h=>h) hfind
    have Me:gD n (Wy.dx (Wy.jy a.1.1 p.1) a.2 p.1 p.2 0 a.1.2) (j,(some left:Option (List (XK×XK))),p,now,())=_:=r1
    rw[Me]
    simp only[dk,X.same,cond_false]
    have nV:=List.mem_of_find?_eq_some hfind
    have hsel:=List.find?_some hfind
    simp only[decide_eq_true_eq]at hsel
    have fZ:=hW.cost p oL w nV
    have:=EP hW hok hF hL mA hall mC m n (by omega) hsel.1 (by omega) (by omega) (by simp only[List.length_append,List.length_cons,List.length_nil];omega) h
    simpa using this
theorem qn2{W:Pt->List Way}(hW:lB W b U){R:Int}(yo:∀p∈U,∀w∈W p,0<=w.2.1/\w.2.1<=1000/\0<=w.1/\w.1<R):∀(m:Nat) {p:Pt} {now:Int} {j r:List sv},p∈U->0<=now->jr W out to best m p now j=some r->∀g∈r,g∈j\/(0<=g.1/\g.1<R/\0<=g.2/\g.2<=now+1000*m)
 |0,_,_,_,_,_,_,h=>by cases h
 |m+1,p,now,j,r,hp,h0,h=>by
  unfold jr at h
  split at h
  ·cases h
   exact λg hg=>.inl hg
  ·split at h
   ·cases h
   ·rename_i w hfind
    have nV:=List.mem_of_find?_eq_some hfind
    have fZ:=hW.cost p hp w nV
    have hl:=yo p hp w nV
    intro g hg
    rcases qn2 hW yo m (hW.to p hp w nV) (by omega) h g hg with h1|⟨h1,h2,h3,h4⟩
    ·rcases List.mem_append.1 h1 with h1|h1
     ·exact .inl h1
     ·have:g=(w.1,now+w.2.1):=by simpa using h1
      subst this
      exact .inr ⟨hl.2.2.1,hl.2.2.2,by simp only;omega,by simp only;omega⟩
    ·exact .inr ⟨h1,h2,h3,by omega⟩
end
end Go.Proofs.Tryz.V.Cv
