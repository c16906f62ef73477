/- drive, plain: it ends, and its legs are small. No condition beyond those typed in each theorem. -/
import Derived.Test.YtmlocmhkfnojbaaD7
namespace Go.Proofs.Try.V.Cv
open Go.Vi Go.Proofs Go.RowKit
set_option maxRecDepth 100000
section
variable {a:Atl} {b:Pt} {U:List Pt} {out:List (Pt×Pt)} {to:Int} {best:Pt}
theorem L13_ok(hW:WOK (qQ a) b U)(hok:∀p∈U,Wy.okW a p)(hF:Fin (qQ a) b U out)(hB:Best out to best){o4:List Leg}{ys:List Pt}(hlen:ys.length<=400)(hnd:ys.Nodup)
  (hmem:∀p,p∈ys↔∃c,qX out p=some c/\K c<=K best) (hsort:ys.Pairwise λx y=>∀c d,qX out x=some c->qX out y=some d->K d<=K c):
  ∀(m i:Nat) {left:List (Pt×Pt)},i<=ys.length->ys.length<m+i->qff (qQ a) out to best left (ys.take i)->
  ∃left',L22_14 m ((to,a,(ys.length:Int),(i:Int),()),(o4,(some left:Option (List (XK×XK))),ys,()),())=some ((to,a,()),(o4,(some left':Option (List (XK×XK))),()),())/\qff (qQ a) out to best left' ys
 |0,_,_,_,h,_=>by omega
 |m+1,i,left,hi,hm,hL=>by
  show ∃left',B22_14 m (L22_14 m) to a (ys.length:Int) (i:Int) o4 (some left) ys=_/\_
  unfold B22_14
  by_cases hlt:i<ys.length
  ·rw[decide_eq_true (by omega),cond_true,qaS (by omega) (by omega)]
   have hg:ys[i]? = some ys[i]:=List.getElem?_eq_getElem hlt
   obtain⟨p,hp⟩:∃p,p=ys[i]:=⟨_,rfl⟩
   have hgi:∀{R:Type} (k:Pt->Option R),qs ys (i:Int) k=k p:=λk=>by
    unfold qs
    rw[if_pos (by omega),Int.toNat_natCast,hg,hp]
   rw[hgi]
   have hpm:p∈ys:=by rw[hp];exact List.getElem_mem hlt
   obtain⟨f,hf,hfb⟩:=(hmem p).1 hpm
   have hpU:=(hF.bnd p f hf).1
   have hpl:=hW.pl _ hpU
   have htl:(ys.take i).length=i:=by rw[List.length_take];omega
   have htk:ys.take (i+1)=ys.take i++[p]:=by rw[hp];exact List.take_succ_eq_append_getElem hlt
   have hpn:p∉ys.take i:=λhh=>by
    obtain⟨j,hj,e⟩:=List.getElem_of_mem hh
    rw[htl]at hj
    rw[List.getElem_take,hp]at e
    exact absurd e ((List.pairwise_iff_getElem.1 hnd) j i (by omega) hlt hj)
   have hll:=hL.len
   have hL1:ql (left.length:Int)=λ(k:Option (((Int×Atl×Unit)×((List Leg)×(Option (List (XK×XK)))×Unit)×Unit)))=>k:=by
    funext k
    rw[jR,if_pos (by omega)]
   have hw1:IntKind.wrap .i64 ((i:Int)+1)=((i+1:Nat):Int):=by rw[wr (by omega) (by omega)];omega
   by_cases ht:p.1=to
   ·rw[show(p.1==to)=true from beq_iff_eq.2 ht,cond_true,qbx (by omega) (by omega),qbx (by omega) (by omega)]
    simp only[dk,hw1]
    rw[jR,if_pos (by omega)]
    exact L13_ok hW hok hF hB hlen hnd hmem hsort m (i+1) (by omega) (by omega) (by rw[htk];exact hL.stop hW hF hB hpn hf ht)
   ·rw[show(p.1==to)=false from beq_eq_false_iff_ne.2 ht,cond_false]
    rw[qka (hok _ hpU) (λl15=>qa (R22_19 m l15 (some left,p,())) λo14=>cond (X.same .norm o14.1) (L22_14 m ((to,a,(ys.length:Int),(IntKind.wrap .i64 ((i:Int)+1)),()),(o4,o14.2.1,ys,()),())) (none))]
    obtain⟨left',r1,r2⟩:=R14_ok hW hF hL (by omega) hf hpn m (qQ a p) [] (qgz.start hL hpn) rfl
    have r1':R22_19 m (Wy.wayL (Wy.pkOf a.1.1 p.1) a.2 p.1 p.2 0 a.1.2) (some left,p,())=_:=r1
    rw[r1']
    simp only[dk,X.same,cond_true,hw1]
    refine L13_ok hW hok hF hB hlen hnd hmem hsort m (i+1) (by omega) (by omega) ?_
    rw[htk]
    refine r2.done hW hF hL hpn hf ht λq c hq hqb hqf=>?_
    have hqm:q∈ys:=(hmem q).2 ⟨c,hq,hqb⟩
    obtain⟨j,hj,e⟩:=List.getElem_of_mem hqm
    rw[List.mem_iff_getElem]
    rcases Nat.lt_or_ge j i with h|h
    ·exact⟨j,by rw[htl];exact h,by rw[List.getElem_take];exact e⟩
    ·rcases Nat.lt_or_ge i j with h2|h2
     ·have:=(List.pairwise_iff_getElem.1 hsort) i j hlt hj h2 f c (by rw[<-hp];exact hf) (by rw[e];exact hq)
      omega
     ·have hij:j=i:=by omega
      subst hij
      rw[<-hp]at e
      subst e
      rw[hf]at hq
      cases hq
      omega
  ·rw[decide_eq_false (by omega),cond_false]
   have:i=ys.length:=by omega
   rw[this,List.take_length]at hL
   exact⟨left,rfl,hL⟩
theorem R21_ok(hW:WOK (qQ a) b U)(hF:Fin (qQ a) b U out){left:List (Pt×Pt)}{seen:List Pt}(hL:qff (qQ a) out to best left seen)(hsl:seen.length<=400)(hall:∀q,qcH (qQ a) out to best q->q∈seen){p:Pt}(hg:qcH (qQ a) out to best p)
  (hrest:∀w∈qQ a p,0<=w.2.1/\w.2.1<=1000) {now:Int} (hn0:0<=now) (hn1:now<=1000000000) {j:List Leg} (hj:j.length<=1000000) (N:Nat) {w:Way}:∀(rest:List Way),(∀w∈rest,w∈qQ a p)->
  (open Classical in rest.find? (λw=>decide (Sel (qQ a) out to best p w)))=some w->R22_29 N rest (j,(some left:Option (List (XK×XK))),p,now,())=some (.exit 8,(j++[(w.1,now+w.2.1)],(some left:Option (List (XK×XK))),wto w,now+(wc w).1,()))
 |[],_,h=>by cases h
 |v::rest,hsub,h=>by
  classical
  have hvm:=hsub v List.mem_cons_self
  obtain⟨lp,f,hlp,hf,hKlp⟩:=hL.comp p (hall p hg) hg
  have hpU:=(hF.bnd p f hf).1
  have hcost:=hW.cost p hpU v hvm
  have htoU:=hW.to p hpU v hvm
  have hpl:=hW.pl _ htoU
  have hpl2:=hW.pl _ hpU
  have hr:=hrest v hvm
  have olp:=(hL.key p lp hlp).2.1
  have hsel:=sel_iff hW hF hL hsl hall hg hlp hvm
  show Q22_29 N (R22_29 N rest) v j (some left) p now=_
  unfold Q22_29
  have t1:∀{R:Type} (k:Option R),inI v.2.2.1.1 k=k:=λk=>qbx (by unfold wto at *;omega) (by unfold wto at *;omega) k
  have t2:∀{R:Type} (k:Option R),inI v.2.2.1.2 k=k:=λk=>qbx (by unfold wto at *;omega) (by unfold wto at *;omega) k
  have t3:∀{R:Type} (k:Option R),inI p.1 k=k:=λk=>qbx (by omega) (by omega) k
  have t4:∀{R:Type} (k:Option R),inI p.2 k=k:=λk=>qbx (by omega) (by omega) k
  have hlp2:qX left (p.1,p.2)=some lp:=hlp
  simp only[t1,t2,t3,t4,dk,hlp,Option.getD_some]
  rw[List.find?_cons]at h
  have go:¬Sel (qQ a) out to best p v->R22_29 N rest (j,(some left:Option (List (XK×XK))),p,now,())=some (.exit 8,(j++[(w.1,now+w.2.1)],(some left:Option (List (XK×XK))),wto w,now+(wc w).1,())):=λhns=>by
   rw[decide_eq_false hns]at h
   exact R21_ok hW hF hL hsl hall hg hrest hn0 hn1 hj N rest (λw hw=>hsub w (List.mem_cons_of_mem _ hw)) h
  cases ho2:qX left (wto v)with
  |none=>
   have ho3:qX left v.2.2.1=none:=ho2
   simp only[ho3,Option.isSome_none,Bool.not_false,cond_true]
   exact go λhs=>by
    obtain⟨l,hl,_⟩:=hsel.2 hs
    rw[ho2]at hl
    cases hl
  |some l=>
   have ho3:qX left v.2.2.1=some l:=ho2
   have ol:=(hL.key _ l ho2).2.1
   have hz1:(IntKind.wrap .i64 (l.1+v.2.2.2.1))=(qaj l (wc v)).1:=by
    unfold okC wc at *
    rw[wr (by omega) (by omega)]
    rfl
   have hz2:(IntKind.wrap .i64 (l.2+1))=(qaj l (wc v)).2:=by
    unfold okC at *
    rw[wr (by omega) (by omega)]
    unfold qaj
    rw[hcost.2.2]
   simp only[ho3,Option.isSome_some,Bool.not_true,cond_false,Option.getD_some,hz1,hz2]
   by_cases hs:Sel (qQ a) out to best p v
   ·obtain⟨l',hl',heq⟩:=hsel.2 hs
    rw[ho2]at hl'
    cases hl'
    rw[decide_eq_true hs]at h
    cases h
    rw[heq]
    simp only[beq_self_eq_true,Bool.and_self,Bool.not_true,cond_false]
    rw[jR,if_pos (by simp only[List.length_cons,List.length_nil];omega)]
    rw[wr (by omega) (by omega),wr (by unfold wc at hcost;omega) (by unfold wc at hcost;omega)]
    rfl
   ·have hne:qaj l (wc v)≠lp:=λe=>hs (hsel.1 ⟨l,ho2,e⟩)
    have:(((qaj l (wc v)).1==lp.1)&&((qaj l (wc v)).2==lp.2))=false:=by
     cases hh:(((qaj l (wc v)).1==lp.1)&&((qaj l (wc v)).2==lp.2))with
     |false=>rfl
     |true=>
      rw[Bool.and_eq_true,beq_iff_eq,beq_iff_eq]at hh
      exact absurd (Prod.ext hh.1 hh.2) hne
    rw[this]
    simp only[Bool.not_false,cond_true]
    exact go hs
theorem L29_ok(hW:WOK (qQ a) b U)(hok:∀p∈U,Wy.okW a p)(hF:Fin (qQ a) b U out){left:List (Pt×Pt)}{seen:List Pt}(hL:qff (qQ a) out to best left seen)(hsl:seen.length<=400)(hall:∀q,qcH (qQ a) out to best q->q∈seen)
  (hrest:∀p∈U,∀w∈qQ a p,0<=w.2.1/\w.2.1<=1000):∀(m n:Nat) {p:Pt} {now:Int} {j r:List Leg},m<=n->qcH (qQ a) out to best p->0<=now->now+1000*m<=1000000000->j.length+m<=1000000->jr (qQ a) out to best m p now j=some r->
  L22_27 n ((to,a,()),(j,(some left:Option (List (XK×XK))),p,now,()),())=some ((),(r,()),())
 |0,_,_,_,_,_,_,_,_,_,_,h=>by cases h
 |m+1,0,_,_,_,_,hmn,_,_,_,_,_=>by omega
 |m+1,n+1,p,now,j,r,hmn,hg,h0,h1,h2,h=>by
  show B22_27 n (L22_27 n) to a j (some left) p now=_
  unfold B22_27
  unfold jr at h
  obtain⟨c,hc,_⟩:=hg.le hW hF
  have hpU:=(hF.bnd _ _ hc).1
  split at h
  ·rename_i ht
   cases h
   rw[show(p.1 !=to)=false by simp[ht],cond_false]
  ·rename_i ht
   rw[show(p.1 !=to)=true by simp[ht],cond_true]
   split at h
   ·cases h
   ·rename_i w hfind
    rw[qka (hok _ hpU) (λl21=>qa (R22_29 n l21 (j,some left,p,now,())) λo20=>cond (X.same .norm o20.1) (L22_27 n ((to,a,()),(o20.2.1,o20.2.2.1,o20.2.2.2.1,o20.2.2.2.2.1,()),())) (cond (X.same (.exit 8) o20.1) (L22_27 n ((to,a,()),(o20.2.1,o20.2.2.1,o20.2.2.2.1,o20.2.2.2.2.1,()),())) (none)))]
    have r1:=R21_ok hW hF hL hsl hall hg (hrest p hpU) h0 (by omega) (j:=j) (by omega) n (w:=w) (qQ a p) (λ_ h=>h) hfind
    have r1':R22_29 n (Wy.wayL (Wy.pkOf a.1.1 p.1) a.2 p.1 p.2 0 a.1.2) (j,(some left:Option (List (XK×XK))),p,now,())=_:=r1
    rw[r1']
    simp only[dk,X.same,cond_false]
    have hwm:=List.mem_of_find?_eq_some hfind
    have hsel:=List.find?_some hfind
    simp only[decide_eq_true_eq]at hsel
    have hcost:=hW.cost p hpU w hwm
    have:=L29_ok hW hok hF hL hsl hall hrest m n (by omega) hsel.1 (by omega) (by omega) (by simp only[List.length_append,List.length_cons,List.length_nil];omega) h
    simpa using this
end
end Go.Proofs.Try.V.Cv
