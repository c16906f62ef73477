/- The search for the least costs, plain: what holds behind each step. No condition beyond those typed in each theorem. -/
import Derived.Test.YtmlocmhkfnojbaaGreatD1
import Derived.Test.YtmlocmhkfnojbaaGreatVi40
namespace Go.Proofs.Tryz.V.Cv
open Go.Vi
abbrev Way:=Int×(Int×(Pt×Pt))
def dw(w:Way):Pt:=w.2.2.1
def wc(w:Way):Pt:=w.2.2.2
def dG(c d:Pt):Pt:=(c.1+d.1,c.2+d.2)
theorem AR(c d:Pt):K (dG c d)=K c+K d:=by unfold K dG;simp only;omega
def cT(n:Nat)(c:Pt):Prop:=0<=c.1/\c.1<=1000*c.2/\0<=c.2/\c.2<=n
theorem cT.mono{n m:Nat}{c:Pt}(h:cT n c)(hm:n<=m):cT m c:=by unfold cT at *;omega
theorem xz{n m:Nat}{c d:Pt}(h1:cT n c)(h2:cT m d)(hn:n<=999999)(hm:m<=999999)(h:K c=K d):c=d:=by
 obtain⟨c1,c2⟩:=c
 obtain⟨d1,d2⟩:=d
 unfold cT K at *
 simp only at *
 have:c1=d1:=by omega
 have:c2=d2:=by omega
 subst_vars
 rfl
theorem ace{n m:Nat}{c d:Pt}(h1:cT n c)(h2:cT m d)(hn:n<=999999)(hm:m<=999999):K c<K d↔c.1<d.1\/(c.1=d.1/\c.2<d.2):=by
 unfold cT K at *
 omega
def oJ(done:List (Pt×Int))(p:Pt):Bool:=jE done p==some 1
theorem YS{done:List (Pt×Int)}{p:Pt}:oJ done p=true↔jE done p=some 1:=by unfold oJ;exact beq_iff_eq
theorem qkq{p q:Pt->Bool}(h:∀x,p x=true->q x=true){x:Pt}:∀(U:List Pt),x∈U->p x=false->q x=true->U.countP p<U.countP q
 |[],hx,_,_=>by cases hx
 |y::U,hx,h1,h2=>by
  have hm:U.countP p<=U.countP q:=List.countP_mono_left (λz _=>h z)
  rw[List.countP_cons,List.countP_cons]
  rcases List.mem_cons.1 hx with rfl|hx
  ·rw[h1,h2];simp;omega
  ·have:=qkq h U hx h1 h2
   cases hp:p y with
   |true=>rw[h y hp];omega
   |false=>simp only[Bool.false_eq_true,if_false];omega
structure lB (W:Pt->List Way) (b:Pt) (U:List Pt):Prop where
 to:∀p∈U,∀w∈W p,dw w∈U
 cost:∀p∈U,∀w∈W p,1<=(wc w).1/\(wc w).1<=1000/\(wc w).2=1
 len:∀p∈U,(W p).length<=16
 vH:b∈U
 small:U.length<=400
 pl:∀p∈U,0<=p.1/\p.1<=1000/\0<=p.2/\p.2<=1000
structure Inv (W:Pt->List Way) (b:Pt) (U:List Pt) (out:List (Pt×Pt)) (done:List (Pt×Int)) (q:List bG) (sV:Int) (x:Pt) (rest:List Way):Prop where
 heap:sE q q.length
 fP:∀p c,jE out p=some c->p∈U/\cT (U.countP (oJ done)) c
 qb:∀y∈q,cT (U.countP (oJ done)) y.2/\∃c,jE out y.1=some c/\K c<=K y.2
 sR:∀p c,jE out p=some c->jE done p=some 1\/(p,c)∈q
 xI:∀y∈q,sV<=K y.2
 dn:∀p,jE done p=some 1->∃c,jE out p=some c/\K c<=sV/\∀w∈W p,(p=x/\w∈rest)\/∃c2,jE out (dw w)=some c2/\K c2<=K c+K (wc w)
 Ao:∀p c,jE out p=some c->(p=b/\c=(0,0))\/∃p' c' w,jE done p'=some 1/\jE out p'=some c'/\w∈W p'/\dw w=p/\c=dG c' (wc w)
 vH:jE out b=some (0,0)
 keys:(out.map (·.1)).Nodup
 mM:∀p v,jE done p=some v->v=1
section
variable {W:Pt->List Way} {b:Pt} {U:List Pt} {out:List (Pt×Pt)} {done:List (Pt×Int)} {q:List bG} {sV:Int} {x:Pt} {rest:List Way}
theorem TH(U:List Pt)(done:List (Pt×Int)):U.countP (oJ done)<=U.length:=List.countP_le_length
theorem Inv.SO{w:Way}(h:Inv W b U out done q sV x (w::rest)){c old:Pt}(hx:jE done x=some 1)(hc:jE out x=some c)(ho:jE out (dw w)=some old)(hle:K old<=K c+K (wc w)):Inv W b U out done q sV x rest where
 heap:=h.heap
 fP:=h.fP
 qb:=h.qb
 sR:=h.sR
 xI:=h.xI
 dn p hp:=by
  obtain⟨c0,h1,h2,h3⟩:=h.dn p hp
  refine⟨c0,h1,h2,λw' iX=>?_⟩
  rcases h3 w' iX with⟨rfl,hm⟩|h4
  ·rcases List.mem_cons.1 hm with rfl|hm
   ·rw[hc]at h1
    cases h1
    exact .inr ⟨old,ho,hle⟩
   ·exact .inl ⟨rfl,hm⟩
  ·exact .inr h4
 Ao:=h.Ao
 vH:=h.vH
 keys:=h.keys
 mM:=h.mM
theorem Inv.rJ(hW:lB W b U){w:Way}(h:Inv W b U out done q sV x (w::rest)){c:Pt}(hx:jE done x=some 1)(hc:jE out x=some c)(nV:w∈W x)(acr:sV=K c)(hn:c.2<(U.countP (oJ done):Nat))
  (kQ:∀old,jE out (dw w)=some old->K c+K (wc w)<K old) {q':List bG} (uL:sE q' q'.length) (hp:q'.Perm ((dw w,dG c (wc w))::q)):Inv W b U (ep out (dw w) (dG c (wc w))) done q' sV x rest:=by
 have KF:=(h.fP x c hc).1
 have okc:=(h.fP x c hc).2
 have fZ:=hW.cost x KF w nV
 have hK:K (dG c (wc w))=K c+K (wc w):=AR _ _
 have hKw:0<K (wc w):=by unfold K;omega
 have hz:cT (U.countP (oJ done)) (dG c (wc w)):=by unfold cT dG at *;simp only;omega
 have aq:jE done (dw w)≠some 1:=λhd=>by
  obtain⟨c0,h1,h2,_⟩:=h.dn _ hd
  have:=kQ c0 h1
  omega
 have lk:∀p,jE (ep out (dw w) (dG c (wc w))) p=if p=dw w then some (dG c (wc w))else jE out p:=λp=>by
  split
  ·rename_i e;rw[e];exact Bd _ _ _
  ·rename_i e;exact HG e _ _
 have lko:∀p,jE done p=some 1->jE (ep out (dw w) (dG c (wc w))) p=jE out p:=λp hd=>by
  rw[lk,if_neg (λe=>aq (by rw[<-e];exact hd))]
 have mem:∀y,y∈q'↔y=(dw w,dG c (wc w))\/y∈q:=λy=>by rw[hp.mem_iff,List.mem_cons]
 refine⟨uL,λp c' hl=>?_,λy hy=>?_,λp c' hl=>?_,λy hy=>?_,λp hd=>?_,λp c' hl=>?_,?_,qf8 _ _ _ h.keys,h.mM⟩
 ·rw[lk]at hl
  split at hl
  ·rename_i e
   cases hl
   exact⟨e▸hW.to x KF w nV,hz⟩
  ·exact h.fP p c' hl
 ·rw[mem]at hy
  rcases hy with rfl|hy
  ·exact⟨hz,_,by rw[lk,if_pos rfl],Int.le_refl _⟩
  ·obtain⟨h1,c0,h2,h3⟩:=h.qb y hy
   refine⟨h1,?_⟩
   by_cases e:y.1=dw w
   ·have:=kQ c0 (e▸h2)
    exact⟨_,by rw[lk,if_pos e],by omega⟩
   ·exact⟨c0,by rw[lk,if_neg e];exact h2,h3⟩
 ·rw[lk]at hl
  split at hl
  ·rename_i e
   cases hl
   exact .inr ((mem _).2 (.inl (by rw[e])))
  ·exact(h.sR p c' hl).imp_right λhm=>(mem _).2 (.inr hm)
 ·rw[mem]at hy
  rcases hy with rfl|hy
  ·show sV<=K (dG c (wc w))
   omega
  ·exact h.xI y hy
 ·obtain⟨c0,h1,h2,h3⟩:=h.dn p hd
  refine⟨c0,by rw[lko p hd];exact h1,h2,λw' iX=>?_⟩
  rcases h3 w' iX with⟨rfl,hm⟩|⟨c2,h4,h5⟩
  ·rcases List.mem_cons.1 hm with rfl|hm
   ·rw[hc]at h1
    cases h1
    exact .inr ⟨_,by rw[lk,if_pos rfl],by omega⟩
   ·exact .inl ⟨rfl,hm⟩
  ·right
   by_cases e:dw w'=dw w
   ·have:=kQ c2 (e▸h4)
    exact⟨_,by rw[lk,if_pos e],by omega⟩
   ·exact⟨c2,by rw[lk,if_neg e];exact h4,h5⟩
 ·rw[lk]at hl
  split at hl
  ·rename_i e
   cases hl
   exact .inr ⟨x,c,w,hx,by rw[lko x hx];exact hc,nV,e.symm,rfl⟩
  ·rcases h.Ao p c' hl with h1|⟨p',c1,w',h1,h2,h3,h4,h5⟩
   ·exact .inl h1
   ·exact .inr ⟨p',c1,w',h1,by rw[lko p' h1];exact h2,h3,h4,h5⟩
 ·rw[lk,if_neg,h.vH]
  intro e
  have:=kQ (0,0) (e▸h.vH)
  unfold cT K at *
  omega
theorem Inv.skip{y:bG}{q':List bG}(h:Inv W b U out done q sV x [])(uL:sE q' q'.length)(hp:q.Perm (y::q'))(hd:jE done y.1=some 1):Inv W b U out done q' sV x [] where
 heap:=uL
 fP:=h.fP
 qb z hz:=h.qb z (hp.mem_iff.2 (List.mem_cons_of_mem _ hz))
 sR p c hl:=by
  rcases h.sR p c hl with h1|h1
  ·exact .inl h1
  ·rcases List.mem_cons.1 (hp.mem_iff.1 h1)with rfl|h2
   ·exact .inl hd
   ·exact .inr h2
 xI z hz:=h.xI z (hp.mem_iff.2 (List.mem_cons_of_mem _ hz))
 dn:=h.dn
 Ao:=h.Ao
 vH:=h.vH
 keys:=h.keys
 mM:=h.mM
theorem Inv.take(hW:lB W b U){y:bG}{q':List bG}(h:Inv W b U out done q sV x [])(uL:sE q' q'.length)(hp:q.Perm (y::q'))(hmin:∀z∈q,K y.2<=K z.2)(hd:jE done y.1≠some 1):
  Inv W b U out (ep done y.1 1) q' (K y.2) y.1 (W y.1)/\jE out y.1=some y.2/\y.1∈U/\cT (U.countP (oJ done)) y.2/\U.countP (oJ done)<U.countP (oJ (ep done y.1 1)):=by
 have hy:y∈q:=hp.mem_iff.2 List.mem_cons_self
 have oK:=hW.small
 have hcn:=TH U done
 obtain⟨oky,c1,hc1,hle⟩:=h.qb y hy
 have hbc:=h.fP _ _ hc1
 have hpd:(y.1,c1)∈q:=(h.sR _ _ hc1).resolve_left hd
 have heq:c1=y.2:=xz hbc.2 oky (by omega) (by omega) (by have:=hmin _ hpd;simp only at this;omega)
 subst heq
 have lk:∀p,jE (ep done y.1 (1:Int)) p=if p=y.1 then some 1 else jE done p:=λp=>by
  split
  ·rename_i e;rw[e];exact Bd _ _ _
  ·rename_i e;exact HG e _ _
 have CE:U.countP (oJ done)<U.countP (oJ (ep done y.1 1)):=by
  refine qkq (x:=y.1) (λp hp=>?_) U hbc.1 ?_ ?_
  ·rw[YS]at hp ⊢
   rw[lk]
   split
   ·rfl
   ·exact hp
  ·cases hb:oJ done y.1 with
   |false=>rfl
   |true=>exact absurd (YS.1 hb) hd
  ·rw[YS,lk,if_pos rfl]
 refine⟨⟨uL,λp c hl=>⟨(h.fP p c hl).1,(h.fP p c hl).2.mono (by omega)⟩,λz hz=>?_,λp c hl=>?_,λz hz=>hmin z (hp.mem_iff.2 (List.mem_cons_of_mem _ hz)),λp dK=>?_,λp c hl=>?_,h.vH,h.keys,λp v hl=>?_⟩,hc1,hbc.1,oky,CE⟩
 ·obtain⟨h1,h2⟩:=h.qb z (hp.mem_iff.2 (List.mem_cons_of_mem _ hz))
  exact⟨h1.mono (by omega),h2⟩
 ·rw[lk]
  by_cases e:p=y.1
  ·exact .inl (by rw[if_pos e])
  ·rw[if_neg e]
   refine(h.sR p c hl).imp_right λhm=>?_
   rcases List.mem_cons.1 (hp.mem_iff.1 hm)with h2|h2
   ·exact absurd (by rw[<-h2]) e
   ·exact h2
 ·rw[lk]at dK
  by_cases e:p=y.1
  ·subst e
   exact⟨_,hc1,Int.le_refl _,λw hw=>.inl ⟨rfl,hw⟩⟩
  ·rw[if_neg e]at dK
   obtain⟨c0,h1,h2,h3⟩:=h.dn p dK
   exact⟨c0,h1,Int.le_trans h2 (h.xI y hy),λw hw=>.inr ((h3 w hw).resolve_left (λh=>by cases h.2))⟩
 ·refine(h.Ao p c hl).imp_right ?_
  rintro⟨p',c',w,h1,h2⟩
  exact⟨p',c',w,by
   rw[lk]
   split
   ·rfl
   ·exact h1,h2⟩
 ·rw[lk]at hl
  split at hl
  ·cases hl;rfl
  ·exact h.mM p v hl
theorem Inv.start(hW:lB W b U)(x:Pt):Inv W b U (ep [] b (0,0)) [] [(b,(0,0))] 0 x []:=by
 have lk:∀p c,jE (ep ([]:List (Pt×Pt)) b (0,0)) p=some c->p=b/\c=(0,0):=by
  intro p c h
  by_cases e:p=b
  ·rw[e,Bd]at h
   exact⟨e,by cases h;rfl⟩
  ·rw[HG e]at h
   cases h
 refine⟨λi h1 h2=>by simp at h2;omega,λp c h=>?_,λy hy=>?_,λp c h=>?_,λy hy=>?_,λp h=>(by cases h),λp c h=>.inl (lk p c h),Bd _ _ _,by simp[ep],λp v h=>(by cases h)⟩
 ·obtain⟨rfl,rfl⟩:=lk p c h
  exact⟨hW.vH,by unfold cT;simp only;omega⟩
 ·obtain rfl:y=(b,(0,0)):=by simpa using hy
  exact⟨by unfold cT;simp only;omega,_,Bd _ _ _,Int.le_refl _⟩
 ·obtain⟨rfl,rfl⟩:=lk p c h
  exact .inr (by simp)
 ·obtain rfl:y=(b,(0,0)):=by simpa using hy
  unfold K;simp
end
structure Fin (W:Pt->List Way) (b:Pt) (U:List Pt) (out:List (Pt×Pt)):Prop where
 fP:∀p c,jE out p=some c->p∈U/\cT 400 c
 rel:∀p c,jE out p=some c->∀w∈W p,∃c2,jE out (dw w)=some c2/\K c2<=K c+K (wc w)
 Ao:∀p c,jE out p=some c->(p=b/\c=(0,0))\/∃p' c' w,jE out p'=some c'/\w∈W p'/\dw w=p/\c=dG c' (wc w)
 vH:jE out b=some (0,0)
 keys:(out.map (·.1)).Nodup
theorem Inv.fin{W:Pt->List Way}{b:Pt}{U:List Pt}{out:List (Pt×Pt)}{done:List (Pt×Int)}{sV:Int}{x:Pt}(hW:lB W b U)(h:Inv W b U out done [] sV x []):Fin W b U out where
 fP p c hl:=⟨(h.fP p c hl).1,(h.fP p c hl).2.mono (by have:=TH U done;have:=hW.small;omega)⟩
 rel p c hl w hw:=by
  have hd:=(h.sR p c hl).resolve_right (by simp)
  obtain⟨c0,h1,_,h3⟩:=h.dn p hd
  rw[hl]at h1
  cases h1
  exact(h3 w hw).resolve_left (λh=>by cases h.2)
 Ao p c hl:=(h.Ao p c hl).imp_right λ⟨p',c',w,_,h2⟩=>⟨p',c',w,h2⟩
 vH:=h.vH
 keys:=h.keys
end Go.Proofs.Tryz.V.Cv
