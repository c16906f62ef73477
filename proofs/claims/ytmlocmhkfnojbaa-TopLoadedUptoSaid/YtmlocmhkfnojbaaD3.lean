/- What is left from each place, and the journey, plain. No condition beyond those typed in each theorem. -/
import Derived.Test.YtmlocmhkfnojbaaD2
namespace Go.Proofs.Try.V.Cv
open Go.Vi
inductive qcH (W:Pt->List Way) (out:List (Pt×Pt)) (to:Int) (best:Pt):Pt->Prop
 |stop (p c:Pt):p.1=to->qX out p=some c->K c=K best->qcH W out to best p
 |step (p c:Pt) (w:Way) (c2:Pt):qX out p=some c->w∈W p->qX out (wto w)=some c2->K c2=K c+K (wc w)->qcH W out to best (wto w)->qcH W out to best p
structure Best (out:List (Pt×Pt)) (to:Int) (best:Pt):Prop where
 is:∃t,t.1=to/\qX out t=some best
 least:∀p c,qX out p=some c->p.1=to->K best<=K c
section
variable {W:Pt->List Way} {b:Pt} {U:List Pt} {out:List (Pt×Pt)} {to:Int} {best:Pt}
theorem Kpos{W:Pt->List Way}{b:Pt}{U:List Pt}(hW:WOK W b U){p:Pt}(hp:p∈U){w:Way}(hw:w∈W p):1000000<=K (wc w):=by
 have:=hW.cost p hp w hw
 unfold K
 omega
theorem qcH.le(hW:WOK W b U)(hF:Fin W b U out){p:Pt}(h:qcH W out to best p):∃c,qX out p=some c/\K c<=K best:=by
 induction h with
 |stop p c _ h2 h3=>exact⟨c,h2,by omega⟩
 |step p c w c2 h1 h2 h3 h4 _ ih=>
  obtain⟨c3,e,hle⟩:=ih
  rw[h3]at e
  cases e
  have:=Kpos hW (hF.bnd p c h1).1 h2
  exact⟨c,h1,by omega⟩
theorem qcH.next(hW:WOK W b U)(hF:Fin W b U out){p:Pt}(h:qcH W out to best p)(hp:p.1≠to):∃c w c2,qX out p=some c/\w∈W p/\qX out (wto w)=some c2/\K c2=K c+K (wc w)/\qcH W out to best (wto w):=by
 cases h with
 |stop p c h1 _ _=>exact absurd h1 hp
 |step p c w c2 h1 h2 h3 h4 h5=>exact⟨c,w,c2,h1,h2,h3,h4,h5⟩
theorem qlF(hW:WOK W b U)(hF:Fin W b U out)(hB:Best out to best):qcH W out to best b:=by
 have back:∀(n:Nat) (p c:Pt),qX out p=some c->c.2.toNat<=n->qcH W out to best p->qcH W out to best b:=by
  intro n
  induction n with
  |zero=>
   intro p c hl hn hg
   rcases hF.sup p c hl with⟨rfl,_⟩|⟨p',c',w,h1,h2,h3,h4⟩
   ·exact hg
   ·have h5:=hW.cost p' (hF.bnd _ _ h1).1 w h2
    have h6:=(hF.bnd _ _ h1).2
    rw[h4]at hn
    unfold qaj okC at *
    simp only at hn
    omega
  |succ n ih=>
   intro p c hl hn hg
   rcases hF.sup p c hl with⟨rfl,_⟩|⟨p',c',w,h1,h2,h3,h4⟩
   ·exact hg
   ·have h5:=hW.cost p' (hF.bnd _ _ h1).1 w h2
    have h6:=(hF.bnd _ _ h1).2
    refine ih p' c' h1 ?_ (.step p' c' w c h1 h2 (by rw[h3];exact hl) (by rw[h4,qeW]) (by rw[h3];exact hg))
    rw[h4]at hn
    unfold qaj okC at *
    simp only at hn
    omega
 obtain⟨t,ht,hl⟩:=hB.is
 exact back _ t best hl (Nat.le_refl _) (.stop t best ht hl rfl)
structure qff (W:Pt->List Way) (out:List (Pt×Pt)) (to:Int) (best:Pt) (left:List (Pt×Pt)) (seen:List Pt):Prop where
 key:∀p c,qX left p=some c->p∈seen/\okC seen.length c/\∃f,qX out p=some f/\K best<=K f+K c/\(K best=K f+K c->qcH W out to best p)
 comp:∀p∈seen,qcH W out to best p->∃c f,qX left p=some c/\qX out p=some f/\K f+K c=K best
 len:left.length<=seen.length
theorem qff.nil:qff W out to best [] []:=⟨λ_ _ h=>(by cases h),λ_ h=>(by cases h),Nat.le_refl _⟩
theorem qff.stop(hW:WOK W b U)(hF:Fin W b U out)(hB:Best out to best){left:List (Pt×Pt)}{seen:List Pt}(h:qff W out to best left seen){p f:Pt}(hp:p∉seen)(hf:qX out p=some f)(ht:p.1=to):qff W out to best (qaC left p (0,0)) (seen++[p]):=by
 have lk:∀q,qX (qaC left p ((0,0):Pt)) q=if q=p then some (0,0)else qX left q:=λq=>by
  split
  ·rename_i e;rw[e];exact qac _ _ _
  ·rename_i e;exact qaq e _ _
 have hK0:K (0,0)=0:=rfl
 refine⟨λq c hl=>?_,λq hq hg=>?_,?_⟩
 ·rw[lk]at hl
  split at hl
  ·rename_i e
   cases hl
   subst e
   refine⟨by simp,by unfold okC;simp only;omega,f,hf,?_,λhe=>?_⟩
   ·have:=hB.least _ _ hf ht
    omega
   ·exact .stop _ f ht hf (by omega)
  ·obtain⟨h1,h2,h3⟩:=h.key q c hl
   exact⟨List.mem_append_left _ h1,h2.mono (by simp),h3⟩
 ·by_cases e:q=p
  ·subst e
   obtain⟨c,h1,h2⟩:=hg.le hW hF
   rw[hf]at h1
   cases h1
   have:=hB.least _ _ hf ht
   exact⟨(0,0),f,by rw[lk,if_pos rfl],hf,by omega⟩
  ·have hq':q∈seen:=by
    rcases List.mem_append.1 hq with h|h
    ·exact h
    ·exact absurd (by simpa using h) e
   obtain⟨c,f',h1,h2⟩:=h.comp q hq' hg
   exact⟨c,f',by rw[lk,if_neg e];exact h1,h2⟩
 ·have:=qb2 left p ((0,0):Pt)
  rw[List.length_append]
  have:=h.len
  split at * <;>simp<;>omega
structure qgz (W:Pt->List Way) (out:List (Pt×Pt)) (to:Int) (best:Pt) (left0 left:List (Pt×Pt)) (n:Nat) (p f:Pt) (past:List Way):Prop where
 same:∀q,q≠p->qX left q=qX left0 q
 at_:∀c,qX left p=some c->okC (n+1) c/\K best<=K f+K c/\(K best=K f+K c->qcH W out to best p)
 past:∀w∈past,wto w≠p->∀l,qX left0 (wto w)=some l->∃c,qX left p=some c/\K c<=K l+K (wc w)
 len:left.length<=n+(if(qX left p).isSome=true then 1 else 0)
theorem qgz.put(hW:WOK W b U)(hF:Fin W b U out){left0 left:List (Pt×Pt)}{seen:List Pt}(h0:qff W out to best left0 seen)(hsl:seen.length<=400){p f:Pt}{past:List Way}(h:qgz W out to best left0 left seen.length p f past)(hf:qX out p=some f){w:Way}(hw:w∈W p){l:Pt}(hl:qX left (wto w)=some l)
  (hbet:∀old,qX left p=some old->K l+K (wc w)<K old):qgz W out to best left0 (qaC left p (qaj l (wc w))) seen.length p f (past++[w]):=by
 have lk:∀q,qX (qaC left p (qaj l (wc w))) q=if q=p then some (qaj l (wc w))else qX left q:=λq=>by
  split
  ·rename_i e;rw[e];exact qac _ _ _
  ·rename_i e;exact qaq e _ _
 have hpU:=(hF.bnd p f hf).1
 have hcost:=hW.cost p hpU w hw
 have hKp:=Kpos hW hpU hw
 have hne:wto w≠p:=λe=>by
  have:=hbet l (e▸hl)
  omega
 obtain⟨_,okl,f2,hf2,hle,hgd⟩:=h0.key (wto w) l (by rw[<-h.same _ hne];exact hl)
 obtain⟨c2,hc2,hrel⟩:=hF.rel p f hf w hw
 rw[hf2]at hc2
 cases hc2
 refine⟨λq hq=>by rw[lk,if_neg hq];exact h.same q hq,λc hc=>?_,λw' hw' hne' l' hl'=>?_,?_⟩
 ·rw[lk,if_pos rfl]at hc
  cases hc
  refine⟨by unfold okC qaj at *;simp only;omega,by rw[qeW];omega,λhe=>?_⟩
  rw[qeW]at he
  exact .step p f w f2 hf hw hf2 (by omega) (hgd (by omega))
 ·rcases List.mem_append.1 hw' with h1|h1
  ·obtain⟨c,h2,h3⟩:=h.past w' h1 hne' l' hl'
   have:=hbet c h2
   exact⟨_,by rw[lk,if_pos rfl],by rw[qeW];omega⟩
  ·obtain rfl:w'=w:=by simpa using h1
   rw[h.same _ hne,hl']at hl
   cases hl
   exact⟨_,by rw[lk,if_pos rfl],by rw[qeW];omega⟩
 ·have h1:=qb2 left p (qaj l (wc w))
  have h2:=h.len
  rw[lk,if_pos rfl,h1]
  simp only[Option.isSome_some,if_true]
  split
  ·rename_i h3;rw[if_pos h3]at h2;exact h2
  ·rename_i h3;rw[if_neg h3]at h2;omega
theorem qgz.not{left0 left:List (Pt×Pt)}{n:Nat}{p f:Pt}{past:List Way}(h:qgz W out to best left0 left n p f past){w:Way}(hno:∀l,qX left (wto w)=some l->∃old,qX left p=some old/\K old<=K l+K (wc w)):qgz W out to best left0 left n p f (past++[w]):=
 ⟨h.same,h.at_,λw' hw' hne' l' hl'=>by
  rcases List.mem_append.1 hw' with h1|h1
  ·exact h.past w' h1 hne' l' hl'
  ·obtain rfl:w'=w:=by simpa using h1
   exact hno l' (by rw[h.same _ hne'];exact hl'),h.len⟩
theorem qgz.start{left0:List (Pt×Pt)}{seen:List Pt}(h0:qff W out to best left0 seen){p f:Pt}(hp:p∉seen):qgz W out to best left0 left0 seen.length p f []:=
 ⟨λ_ _=>rfl,λc hc=>absurd (h0.key p c hc).1 hp,λw hw=>(by cases hw),Nat.le_trans h0.len (Nat.le_add_right _ _)⟩
theorem qgz.done(hW:WOK W b U)(hF:Fin W b U out){left0 left:List (Pt×Pt)}{seen:List Pt}(h0:qff W out to best left0 seen){p f:Pt}(hp:p∉seen)(hf:qX out p=some f)(ht:p.1≠to)
  (hsort:∀q c,qX out q=some c->K c<=K best->K f<K c->q∈seen) (h:qgz W out to best left0 left seen.length p f (W p)):qff W out to best left (seen++[p]):=by
 refine⟨λq c hl=>?_,λq hq hg=>?_,by
  rw[List.length_append]
  refine Nat.le_trans h.len (Nat.add_le_add_left ?_ _)
  split<;>simp⟩
 ·by_cases e:q=p
  ·subst e
   obtain⟨h1,h2,h3⟩:=h.at_ c hl
   exact⟨by simp,by simpa using h1,f,hf,h2,h3⟩
  ·rw[h.same q e]at hl
   obtain⟨h1,h2,h3⟩:=h0.key q c hl
   exact⟨List.mem_append_left _ h1,h2.mono (by simp),h3⟩
 ·by_cases e:q=p
  ·subst e
   obtain⟨c0,w,c2,g1,g2,g3,g4,g5⟩:=hg.next hW hF ht
   rw[hf]at g1
   cases g1
   have hKp:=Kpos hW (hF.bnd q f hf).1 g2
   obtain⟨c3,g6,g10⟩:=g5.le hW hF
   rw[g3]at g6
   cases g6
   have hin:=hsort _ _ g3 g10 (by omega)
   obtain⟨l,f2,g7,g9,g10⟩:=h0.comp _ hin g5
   rw[g3]at g9
   cases g9
   obtain⟨c,k1,k2⟩:=h.past w g2 (λe=>hp (e▸hin)) l g7
   have:=(h.at_ c k1).2.1
   exact⟨c,f,k1,hf,by omega⟩
  ·have hq':q∈seen:=by
    rcases List.mem_append.1 hq with h|h
    ·exact h
    ·exact absurd (by simpa using h) e
   obtain⟨c,f',h1,h2⟩:=h0.comp q hq' hg
   exact⟨c,f',by rw[h.same q e];exact h1,h2⟩
def Sel(W:Pt->List Way)(out:List (Pt×Pt))(to:Int)(best:Pt)(p:Pt)(w:Way):Prop:=qcH W out to best (wto w)/\∃f c2,qX out p=some f/\qX out (wto w)=some c2/\K c2=K f+K (wc w)
theorem sel_iff(hW:WOK W b U)(hF:Fin W b U out){left:List (Pt×Pt)}{seen:List Pt}(hL:qff W out to best left seen)(hsl:seen.length<=400)(hall:∀q,qcH W out to best q->q∈seen){p:Pt}(hg:qcH W out to best p){lp:Pt}(hlp:qX left p=some lp){w:Way}(hw:w∈W p):
  (∃l,qX left (wto w)=some l/\qaj l (wc w)=lp)↔Sel W out to best p w:=by
 obtain⟨c0,f,e1,hf,hK⟩:=hL.comp p (hall p hg) hg
 rw[hlp]at e1
 cases e1
 have okp:=(hL.key p lp hlp).2.1
 have hpU:=(hF.bnd p f hf).1
 have hcost:=hW.cost p hpU w hw
 constructor
 ·rintro⟨l,h1,h2⟩
  obtain⟨_,_,f2,h3,h4,h5⟩:=hL.key _ l h1
  obtain⟨c2,h6,h7⟩:=hF.rel p f hf w hw
  rw[h3]at h6
  cases h6
  have:K l+K (wc w)=K lp:=by rw[<-qeW,h2]
  exact⟨h5 (by omega),f,f2,hf,h3,by omega⟩
 ·rintro⟨h1,f',c2,h2,h3,h4⟩
  rw[hf]at h2
  cases h2
  obtain⟨l,f2,h5,h6,h7⟩:=hL.comp _ (hall _ h1) h1
  rw[h3]at h6
  cases h6
  have okl:=(hL.key _ l h5).2.1
  refine⟨l,h5,K_inj (n:=seen.length+1) (m:=seen.length) ?_ okp (by omega) (by omega) (by rw[qeW];omega)⟩
  unfold okC qaj at *
  simp only
  omega
abbrev Leg:=Int×Int
open Classical in
noncomputable def jr(W:Pt->List Way)(out:List (Pt×Pt))(to:Int)(best:Pt):Nat->Pt->Int->List Leg->Option (List Leg)
 |0,_,_,_=>none
 |m+1,p,now,j=>if p.1=to then some j else match(W p).find? (λw=>decide (Sel W out to best p w))with
  |none=>none
  |some w=>jr W out to best m (wto w) (now+(wc w).1) (j++[(w.1,now+w.2.1)])
theorem qnt(hW:WOK W b U)(hF:Fin W b U out):∀(m:Nat) (p f:Pt) (now:Int) (j:List Leg),qX out p=some f->qcH W out to best p->401<=f.2+m->∃r,jr W out to best m p now j=some r
 |0,p,f,now,j,hf,hg,hm=>by
  have:=(hF.bnd p f hf).2
  unfold okC at this
  omega
 |m+1,p,f,now,j,hf,hg,hm=>by
  unfold jr
  split
  ·exact⟨_,rfl⟩
  ·rename_i ht
   obtain⟨c,w0,c2,h1,h2,h3,h4,h5⟩:=hg.next hW hF ht
   split
   ·rename_i hfind
    rw[List.find?_eq_none]at hfind
    have:=hfind w0 h2
    simp only[decide_eq_true_eq]at this
    exact absurd ⟨h5,c,c2,h1,h3,h4⟩ this
   ·rename_i w hfind
    have hwm:=List.mem_of_find?_eq_some hfind
    have hsel:=List.find?_some hfind
    simp only[decide_eq_true_eq]at hsel
    obtain⟨k1,f',k2,k3,k4,k5⟩:=hsel
    rw[hf]at k3
    cases k3
    have hcost:=hW.cost p (hF.bnd p f hf).1 w hwm
    have ok1:=(hF.bnd p f hf).2
    have ok2:=(hF.bnd _ _ k4).2
    have e:k2=qaj f (wc w):=K_inj (n:=400) (m:=401) ok2 (by unfold okC qaj at *;simp only;omega) (by omega) (by omega) (by rw[qeW];exact k5)
    refine qnt hW hF m _ k2 _ _ k4 k1 ?_
    rw[e]
    unfold qaj
    simp only
    omega
end
end Go.Proofs.Try.V.Cv
