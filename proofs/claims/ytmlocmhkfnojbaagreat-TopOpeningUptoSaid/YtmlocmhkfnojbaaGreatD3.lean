/- What is left from each place, and the journey, plain. No condition beyond those typed in each theorem. -/
import Derived.Test.YtmlocmhkfnojbaaGreatD2
namespace Go.Proofs.Tryz.V.Cv
open Go.Vi
inductive lK (W:Pt->List Way) (out:List (Pt×Pt)) (to:Int) (best:Pt):Pt->Prop
 |stop (p c:Pt):p.1=to->jE out p=some c->K c=K best->lK W out to best p
 |step (p c:Pt) (w:Way) (c2:Pt):jE out p=some c->w∈W p->jE out (dw w)=some c2->K c2=K c+K (wc w)->lK W out to best (dw w)->lK W out to best p
structure Fg (out:List (Pt×Pt)) (to:Int) (best:Pt):Prop where
 is:∃t,t.1=to/\jE out t=some best
 least:∀p c,jE out p=some c->p.1=to->K best<=K c
section
variable {W:Pt->List Way} {b:Pt} {U:List Pt} {out:List (Pt×Pt)} {to:Int} {best:Pt}
theorem Fc{W:Pt->List Way}{b:Pt}{U:List Pt}(hW:lB W b U){p:Pt}(hp:p∈U){w:Way}(hw:w∈W p):1000000<=K (wc w):=by
 have:=hW.cost p hp w hw
 unfold K
 omega
theorem lK.le(hW:lB W b U)(hF:Fin W b U out){p:Pt}(h:lK W out to best p):∃c,jE out p=some c/\K c<=K best:=by
 induction h with
 |stop p c _ h2 h3=>exact⟨c,h2,by omega⟩
 |step p c w c2 h1 h2 h3 h4 _ ih=>
  obtain⟨c3,e,hle⟩:=ih
  rw[h3]at e
  cases e
  have:=Fc hW (hF.fP p c h1).1 h2
  exact⟨c,h1,by omega⟩
theorem lK.next(hW:lB W b U)(hF:Fin W b U out){p:Pt}(h:lK W out to best p)(hp:p.1≠to):∃c w c2,jE out p=some c/\w∈W p/\jE out (dw w)=some c2/\K c2=K c+K (wc w)/\lK W out to best (dw w):=by
 cases h with
 |stop p c h1 _ _=>exact absurd h1 hp
 |step p c w c2 h1 h2 h3 h4 h5=>exact⟨c,w,c2,h1,h2,h3,h4,h5⟩
theorem CR(hW:lB W b U)(hF:Fin W b U out)(hB:Fg out to best):lK W out to best b:=by
 have back:∀(n:Nat) (p c:Pt),jE out p=some c->c.2.toNat<=n->lK W out to best p->lK W out to best b:=by
  intro n
  induction n with
  |zero=>
   intro p c hl hn hg
   rcases hF.Ao p c hl with⟨rfl,_⟩|⟨p',c',w,h1,h2,h3,h4⟩
   ·exact hg
   ·have h5:=hW.cost p' (hF.fP _ _ h1).1 w h2
    have h6:=(hF.fP _ _ h1).2
    rw[h4]at hn
    unfold dG cT at *
    simp only at hn
    omega
  |succ n ih=>
   intro p c hl hn hg
   rcases hF.Ao p c hl with⟨rfl,_⟩|⟨p',c',w,h1,h2,h3,h4⟩
   ·exact hg
   ·have h5:=hW.cost p' (hF.fP _ _ h1).1 w h2
    have h6:=(hF.fP _ _ h1).2
    refine ih p' c' h1 ?_ (.step p' c' w c h1 h2 (by rw[h3];exact hl) (by rw[h4,AR]) (by rw[h3];exact hg))
    rw[h4]at hn
    unfold dG cT at *
    simp only at hn
    omega
 obtain⟨t,ht,hl⟩:=hB.is
 exact back _ t best hl (Nat.le_refl _) (.stop t best ht hl rfl)
structure uA (W:Pt->List Way) (out:List (Pt×Pt)) (to:Int) (best:Pt) (left:List (Pt×Pt)) (seen:List Pt):Prop where
 key:∀p c,jE left p=some c->p∈seen/\cT seen.length c/\∃f,jE out p=some f/\K best<=K f+K c/\(K best=K f+K c->lK W out to best p)
 comp:∀p∈seen,lK W out to best p->∃c f,jE left p=some c/\jE out p=some f/\K f+K c=K best
 len:left.length<=seen.length
theorem uA.nil:uA W out to best [] []:=⟨λ_ _ h=>(by cases h),λ_ h=>(by cases h),Nat.le_refl _⟩
theorem uA.stop(hW:lB W b U)(hF:Fin W b U out)(hB:Fg out to best){left:List (Pt×Pt)}{seen:List Pt}(h:uA W out to best left seen){p f:Pt}(hp:p∉seen)(hf:jE out p=some f)(ht:p.1=to):uA W out to best (ep left p (0,0)) (seen++[p]):=by
 have lk:∀q,jE (ep left p ((0,0):Pt)) q=if q=p then some (0,0)else jE left q:=λq=>by
  split
  ·rename_i e;rw[e];exact Bd _ _ _
  ·rename_i e;exact HG e _ _
 have hK0:K (0,0)=0:=rfl
 refine⟨λq c hl=>?_,λq hq hg=>?_,?_⟩
 ·rw[lk]at hl
  split at hl
  ·rename_i e
   cases hl
   subst e
   refine⟨by simp,by unfold cT;simp only;omega,f,hf,?_,λhe=>?_⟩
   ·have:=hB.least _ _ hf ht
    omega
   ·exact .stop _ f ht hf (by omega)
  ·obtain⟨h1,h2,h3⟩:=h.key q c hl
   exact⟨List.mem_append_left _ h1,h2.mono (by simp),h3⟩
 ·by_cases e:q=p
  ·subst e
   obtain⟨c,h1,h2⟩:=hg.le hW hF
   rw[hf]at h1
   cases h1
   have:=hB.least _ _ hf ht
   exact⟨(0,0),f,by rw[lk,if_pos rfl],hf,by omega⟩
  ·have uL:q∈seen:=by
    rcases List.mem_append.1 hq with h|h
    ·exact h
    ·exact absurd (by simpa using h) e
   obtain⟨c,f',h1,h2⟩:=h.comp q uL hg
   exact⟨c,f',by rw[lk,if_neg e];exact h1,h2⟩
 ·have:=RN left p ((0,0):Pt)
  rw[List.length_append]
  have:=h.len
  split at * <;>simp<;>omega
structure wo (W:Pt->List Way) (out:List (Pt×Pt)) (to:Int) (best:Pt) (cN left:List (Pt×Pt)) (n:Nat) (p f:Pt) (fw:List Way):Prop where
 same:∀q,q≠p->jE left q=jE cN q
 at_:∀c,jE left p=some c->cT (n+1) c/\K best<=K f+K c/\(K best=K f+K c->lK W out to best p)
 fw:∀w∈fw,dw w≠p->∀l,jE cN (dw w)=some l->∃c,jE left p=some c/\K c<=K l+K (wc w)
 len:left.length<=n+(if(jE left p).isSome=true then 1 else 0)
theorem wo.put(hW:lB W b U)(hF:Fin W b U out){cN left:List (Pt×Pt)}{seen:List Pt}(h0:uA W out to best cN seen)(mA:seen.length<=400){p f:Pt}{fw:List Way}(h:wo W out to best cN left seen.length p f fw)(hf:jE out p=some f){w:Way}(hw:w∈W p){l:Pt}(hl:jE left (dw w)=some l)
  (kQ:∀old,jE left p=some old->K l+K (wc w)<K old):wo W out to best cN (ep left p (dG l (wc w))) seen.length p f (fw++[w]):=by
 have lk:∀q,jE (ep left p (dG l (wc w))) q=if q=p then some (dG l (wc w))else jE left q:=λq=>by
  split
  ·rename_i e;rw[e];exact Bd _ _ _
  ·rename_i e;exact HG e _ _
 have oL:=(hF.fP p f hf).1
 have fZ:=hW.cost p oL w hw
 have hKp:=Fc hW oL hw
 have hne:dw w≠p:=λe=>by
  have:=kQ l (e▸hl)
  omega
 obtain⟨_,okl,f2,hf2,hle,hgd⟩:=h0.key (dw w) l (by rw[<-h.same _ hne];exact hl)
 obtain⟨c2,hc2,hrel⟩:=hF.rel p f hf w hw
 rw[hf2]at hc2
 cases hc2
 refine⟨λq hq=>by rw[lk,if_neg hq];exact h.same q hq,λc hc=>?_,λw' iX yh l' hl'=>?_,?_⟩
 ·rw[lk,if_pos rfl]at hc
  cases hc
  refine⟨by unfold cT dG at *;simp only;omega,by rw[AR];omega,λhe=>?_⟩
  rw[AR]at he
  exact .step p f w f2 hf hw hf2 (by omega) (hgd (by omega))
 ·rcases List.mem_append.1 iX with h1|h1
  ·obtain⟨c,h2,h3⟩:=h.fw w' h1 yh l' hl'
   have:=kQ c h2
   exact⟨_,by rw[lk,if_pos rfl],by rw[AR];omega⟩
  ·obtain rfl:w'=w:=by simpa using h1
   rw[h.same _ hne,hl']at hl
   cases hl
   exact⟨_,by rw[lk,if_pos rfl],by rw[AR];omega⟩
 ·have h1:=RN left p (dG l (wc w))
  have h2:=h.len
  rw[lk,if_pos rfl,h1]
  simp only[Option.isSome_some,if_true]
  split
  ·rename_i h3;rw[if_pos h3]at h2;exact h2
  ·rename_i h3;rw[if_neg h3]at h2;omega
theorem wo.not{cN left:List (Pt×Pt)}{n:Nat}{p f:Pt}{fw:List Way}(h:wo W out to best cN left n p f fw){w:Way}(hno:∀l,jE left (dw w)=some l->∃old,jE left p=some old/\K old<=K l+K (wc w)):wo W out to best cN left n p f (fw++[w]):=
 ⟨h.same,h.at_,λw' iX yh l' hl'=>by
  rcases List.mem_append.1 iX with h1|h1
  ·exact h.fw w' h1 yh l' hl'
  ·obtain rfl:w'=w:=by simpa using h1
   exact hno l' (by rw[h.same _ yh];exact hl'),h.len⟩
theorem wo.start{cN:List (Pt×Pt)}{seen:List Pt}(h0:uA W out to best cN seen){p f:Pt}(hp:p∉seen):wo W out to best cN cN seen.length p f []:=
 ⟨λ_ _=>rfl,λc hc=>absurd (h0.key p c hc).1 hp,λw hw=>(by cases hw),Nat.le_trans h0.len (Nat.le_add_right _ _)⟩
theorem wo.done(hW:lB W b U)(hF:Fin W b U out){cN left:List (Pt×Pt)}{seen:List Pt}(h0:uA W out to best cN seen){p f:Pt}(hp:p∉seen)(hf:jE out p=some f)(ht:p.1≠to)
  (hsort:∀q c,jE out q=some c->K c<=K best->K f<K c->q∈seen) (h:wo W out to best cN left seen.length p f (W p)):uA W out to best left (seen++[p]):=by
 refine⟨λq c hl=>?_,λq hq hg=>?_,by
  rw[List.length_append]
  refine Nat.le_trans h.len (Nat.add_le_add_left ?_ _)
  split<;>simp⟩
 ·by_cases e:q=p
  ·subst e
   obtain⟨h1,h2,h3⟩:=h.at_ c hl
   exact⟨by simp,by simpa using h1,f,hf,h2,h3⟩
  ·rw[h.same q e]at hl
   obtain⟨h1,h2,h3⟩:=h0.key q c hl
   exact⟨List.mem_append_left _ h1,h2.mono (by simp),h3⟩
 ·by_cases e:q=p
  ·subst e
   obtain⟨c0,w,c2,g1,g2,g3,g4,g5⟩:=hg.next hW hF ht
   rw[hf]at g1
   cases g1
   have hKp:=Fc hW (hF.fP q f hf).1 g2
   obtain⟨c3,g6,g7⟩:=g5.le hW hF
   rw[g3]at g6
   cases g6
   have hin:=hsort _ _ g3 g7 (by omega)
   obtain⟨l,f2,g8,g9,g10⟩:=h0.comp _ hin g5
   rw[g3]at g9
   cases g9
   obtain⟨c,k1,k2⟩:=h.fw w g2 (λe=>hp (e▸hin)) l g8
   have:=(h.at_ c k1).2.1
   exact⟨c,f,k1,hf,by omega⟩
  ·have uL:q∈seen:=by
    rcases List.mem_append.1 hq with h|h
    ·exact h
    ·exact absurd (by simpa using h) e
   obtain⟨c,f',h1,h2⟩:=h0.comp q uL hg
   exact⟨c,f',by rw[h.same q e];exact h1,h2⟩
def Xx(W:Pt->List Way)(out:List (Pt×Pt))(to:Int)(best:Pt)(p:Pt)(w:Way):Prop:=lK W out to best (dw w)/\∃f c2,jE out p=some f/\jE out (dw w)=some c2/\K c2=K f+K (wc w)
theorem GU(hW:lB W b U)(hF:Fin W b U out){left:List (Pt×Pt)}{seen:List Pt}(hL:uA W out to best left seen)(mA:seen.length<=400)(hall:∀q,lK W out to best q->q∈seen){p:Pt}(hg:lK W out to best p){lp:Pt}(hlp:jE left p=some lp){w:Way}(hw:w∈W p):
  (∃l,jE left (dw w)=some l/\dG l (wc w)=lp)↔Xx W out to best p w:=by
 obtain⟨c0,f,e1,hf,hK⟩:=hL.comp p (hall p hg) hg
 rw[hlp]at e1
 cases e1
 have okp:=(hL.key p lp hlp).2.1
 have oL:=(hF.fP p f hf).1
 have fZ:=hW.cost p oL w hw
 constructor
 ·rintro⟨l,h1,h2⟩
  obtain⟨_,_,f2,h3,h4,h5⟩:=hL.key _ l h1
  obtain⟨c2,h6,h7⟩:=hF.rel p f hf w hw
  rw[h3]at h6
  cases h6
  have:K l+K (wc w)=K lp:=by rw[<-AR,h2]
  exact⟨h5 (by omega),f,f2,hf,h3,by omega⟩
 ·rintro⟨h1,f',c2,h2,h3,h4⟩
  rw[hf]at h2
  cases h2
  obtain⟨l,f2,h5,h6,h7⟩:=hL.comp _ (hall _ h1) h1
  rw[h3]at h6
  cases h6
  have okl:=(hL.key _ l h5).2.1
  refine⟨l,h5,xz (n:=seen.length+1) (m:=seen.length) ?_ okp (by omega) (by omega) (by rw[AR];omega)⟩
  unfold cT dG at *
  simp only
  omega
abbrev sv:=Int×Int
open Classical in
noncomputable def jr(W:Pt->List Way)(out:List (Pt×Pt))(to:Int)(best:Pt):Nat->Pt->Int->List sv->Option (List sv)
 |0,_,_,_=>none
 |m+1,p,now,j=>if p.1=to then some j else match(W p).find? (λw=>decide (Xx W out to best p w))with
  |none=>none
  |some w=>jr W out to best m (dw w) (now+(wc w).1) (j++[(w.1,now+w.2.1)])
theorem qn1(hW:lB W b U)(hF:Fin W b U out):∀(m:Nat) (p f:Pt) (now:Int) (j:List sv),jE out p=some f->lK W out to best p->401<=f.2+m->∃r,jr W out to best m p now j=some r
 |0,p,f,now,j,hf,hg,hm=>by
  have:=(hF.fP p f hf).2
  unfold cT at this
  omega
 |m+1,p,f,now,j,hf,hg,hm=>by
  unfold jr
  split
  ·exact⟨_,rfl⟩
  ·rename_i ht
   obtain⟨c,w0,c2,h1,h2,h3,h4,h5⟩:=hg.next hW hF ht
   split
   ·rename_i hfind
    rw[List.find?_eq_none]at hfind
    have:=hfind w0 h2
    simp only[decide_eq_true_eq]at this
    exact absurd ⟨h5,c,c2,h1,h3,h4⟩ this
   ·rename_i w hfind
    have nV:=List.mem_of_find?_eq_some hfind
    have hsel:=List.find?_some hfind
    simp only[decide_eq_true_eq]at hsel
    obtain⟨k1,f',k2,k3,k4,k5⟩:=hsel
    rw[hf]at k3
    cases k3
    have fZ:=hW.cost p (hF.fP p f hf).1 w nV
    have ok1:=(hF.fP p f hf).2
    have ok2:=(hF.fP _ _ k4).2
    have e:k2=dG f (wc w):=xz (n:=400) (m:=401) ok2 (by unfold cT dG at *;simp only;omega) (by omega) (by omega) (by rw[AR];exact k5)
    refine qn1 hW hF m _ k2 _ _ k4 k1 ?_
    rw[e]
    unfold dG
    simp only
    omega
end
end Go.Proofs.Tryz.V.Cv
