/- The search for the least costs, plain: what holds behind each step. No condition beyond those typed in each theorem. -/
import Derived.Test.YtmlocmhkfnojbaaD1
import Derived.Test.YtmlocmhkfnojbaaVi40
namespace Go.Proofs.Try.V.Cv
open Go.Vi
abbrev Way:=Int×(Int×(Pt×Pt))
def wto(w:Way):Pt:=w.2.2.1
def wc(w:Way):Pt:=w.2.2.2
def qaj(c d:Pt):Pt:=(c.1+d.1,c.2+d.2)
theorem qeW(c d:Pt):K (qaj c d)=K c+K d:=by unfold K qaj;simp only;omega
def okC(n:Nat)(c:Pt):Prop:=0<=c.1/\c.1<=1000*c.2/\0<=c.2/\c.2<=n
theorem okC.mono{n m:Nat}{c:Pt}(h:okC n c)(hm:n<=m):okC m c:=by unfold okC at *;omega
theorem K_inj{n m:Nat}{c d:Pt}(h1:okC n c)(h2:okC m d)(hn:n<=999999)(hm:m<=999999)(h:K c=K d):c=d:=by
 obtain⟨c1,c2⟩:=c
 obtain⟨d1,d2⟩:=d
 unfold okC K at *
 simp only at *
 have:c1=d1:=by omega
 have:c2=d2:=by omega
 subst_vars
 rfl
theorem K_lt{n m:Nat}{c d:Pt}(h1:okC n c)(h2:okC m d)(hn:n<=999999)(hm:m<=999999):K c<K d↔c.1<d.1\/(c.1=d.1/\c.2<d.2):=by
 unfold okC K at *
 omega
def isD(done:List (Pt×Int))(p:Pt):Bool:=qX done p==some 1
theorem qhL{done:List (Pt×Int)}{p:Pt}:isD done p=true↔qX done p=some 1:=by unfold isD;exact beq_iff_eq
theorem qjU{p q:Pt->Bool}(h:∀x,p x=true->q x=true){x:Pt}:∀(U:List Pt),x∈U->p x=false->q x=true->U.countP p<U.countP q
 |[],hx,_,_=>by cases hx
 |y::U,hx,h1,h2=>by
  have hm:U.countP p<=U.countP q:=List.countP_mono_left (λz _=>h z)
  rw[List.countP_cons,List.countP_cons]
  rcases List.mem_cons.1 hx with rfl|hx
  ·rw[h1,h2];simp;omega
  ·have:=qjU h U hx h1 h2
   cases hp:p y with
   |true=>rw[h y hp];omega
   |false=>simp only[Bool.false_eq_true,if_false];omega
structure WOK (W:Pt->List Way) (b:Pt) (U:List Pt):Prop where
 to:∀p∈U,∀w∈W p,wto w∈U
 cost:∀p∈U,∀w∈W p,1<=(wc w).1/\(wc w).1<=1000/\(wc w).2=1
 len:∀p∈U,(W p).length<=16
 beg:b∈U
 small:U.length<=400
 pl:∀p∈U,0<=p.1/\p.1<=1000/\0<=p.2/\p.2<=1000
structure Inv (W:Pt->List Way) (b:Pt) (U:List Pt) (out:List (Pt×Pt)) (done:List (Pt×Int)) (q:List Stp) (lev:Int) (x:Pt) (rest:List Way):Prop where
 heap:qeX q q.length
 bnd:∀p c,qX out p=some c->p∈U/\okC (U.countP (isD done)) c
 qb:∀y∈q,okC (U.countP (isD done)) y.2/\∃c,qX out y.1=some c/\K c<=K y.2
 pend:∀p c,qX out p=some c->qX done p=some 1\/(p,c)∈q
 qlev:∀y∈q,lev<=K y.2
 dn:∀p,qX done p=some 1->∃c,qX out p=some c/\K c<=lev/\∀w∈W p,(p=x/\w∈rest)\/∃c2,qX out (wto w)=some c2/\K c2<=K c+K (wc w)
 sup:∀p c,qX out p=some c->(p=b/\c=(0,0))\/∃p' c' w,qX done p'=some 1/\qX out p'=some c'/\w∈W p'/\wto w=p/\c=qaj c' (wc w)
 beg:qX out b=some (0,0)
 keys:(out.map (·.1)).Nodup
 dones:∀p v,qX done p=some v->v=1
section
variable {W:Pt->List Way} {b:Pt} {U:List Pt} {out:List (Pt×Pt)} {done:List (Pt×Int)} {q:List Stp} {lev:Int} {x:Pt} {rest:List Way}
theorem qi4(U:List Pt)(done:List (Pt×Int)):U.countP (isD done)<=U.length:=List.countP_le_length
theorem Inv.worse{w:Way}(h:Inv W b U out done q lev x (w::rest)){c old:Pt}(hx:qX done x=some 1)(hc:qX out x=some c)(ho:qX out (wto w)=some old)(hle:K old<=K c+K (wc w)):Inv W b U out done q lev x rest where
 heap:=h.heap
 bnd:=h.bnd
 qb:=h.qb
 pend:=h.pend
 qlev:=h.qlev
 dn p hp:=by
  obtain⟨c0,h1,h2,h3⟩:=h.dn p hp
  refine⟨c0,h1,h2,λw' hw'=>?_⟩
  rcases h3 w' hw' with⟨rfl,hm⟩|h4
  ·rcases List.mem_cons.1 hm with rfl|hm
   ·rw[hc]at h1
    cases h1
    exact .inr ⟨old,ho,hle⟩
   ·exact .inl ⟨rfl,hm⟩
  ·exact .inr h4
 sup:=h.sup
 beg:=h.beg
 keys:=h.keys
 dones:=h.dones
theorem Inv.better(hW:WOK W b U){w:Way}(h:Inv W b U out done q lev x (w::rest)){c:Pt}(hx:qX done x=some 1)(hc:qX out x=some c)(hwm:w∈W x)(hlev:lev=K c)(hn:c.2<(U.countP (isD done):Nat))
  (hbet:∀old,qX out (wto w)=some old->K c+K (wc w)<K old) {q':List Stp} (hq':qeX q' q'.length) (hp:q'.Perm ((wto w,qaj c (wc w))::q)):Inv W b U (qaC out (wto w) (qaj c (wc w))) done q' lev x rest:=by
 have hxU:=(h.bnd x c hc).1
 have okc:=(h.bnd x c hc).2
 have hcost:=hW.cost x hxU w hwm
 have hK:K (qaj c (wc w))=K c+K (wc w):=qeW _ _
 have hKw:0<K (wc w):=by unfold K;omega
 have hz:okC (U.countP (isD done)) (qaj c (wc w)):=by unfold okC qaj at *;simp only;omega
 have hnd:qX done (wto w)≠some 1:=λhd=>by
  obtain⟨c0,h1,h2,_⟩:=h.dn _ hd
  have:=hbet c0 h1
  omega
 have lk:∀p,qX (qaC out (wto w) (qaj c (wc w))) p=if p=wto w then some (qaj c (wc w))else qX out p:=λp=>by
  split
  ·rename_i e;rw[e];exact qac _ _ _
  ·rename_i e;exact qaq e _ _
 have lko:∀p,qX done p=some 1->qX (qaC out (wto w) (qaj c (wc w))) p=qX out p:=λp hd=>by
  rw[lk,if_neg (λe=>hnd (by rw[<-e];exact hd))]
 have mem:∀y,y∈q'↔y=(wto w,qaj c (wc w))\/y∈q:=λy=>by rw[hp.mem_iff,List.mem_cons]
 refine⟨hq',λp c' hl=>?_,λy hy=>?_,λp c' hl=>?_,λy hy=>?_,λp hd=>?_,λp c' hl=>?_,?_,qfE _ _ _ h.keys,h.dones⟩
 ·rw[lk]at hl
  split at hl
  ·rename_i e
   cases hl
   exact⟨e▸hW.to x hxU w hwm,hz⟩
  ·exact h.bnd p c' hl
 ·rw[mem]at hy
  rcases hy with rfl|hy
  ·exact⟨hz,_,by rw[lk,if_pos rfl],Int.le_refl _⟩
  ·obtain⟨h1,c0,h2,h3⟩:=h.qb y hy
   refine⟨h1,?_⟩
   by_cases e:y.1=wto w
   ·have:=hbet c0 (e▸h2)
    exact⟨_,by rw[lk,if_pos e],by omega⟩
   ·exact⟨c0,by rw[lk,if_neg e];exact h2,h3⟩
 ·rw[lk]at hl
  split at hl
  ·rename_i e
   cases hl
   exact .inr ((mem _).2 (.inl (by rw[e])))
  ·exact(h.pend p c' hl).imp_right λhm=>(mem _).2 (.inr hm)
 ·rw[mem]at hy
  rcases hy with rfl|hy
  ·show lev<=K (qaj c (wc w))
   omega
  ·exact h.qlev y hy
 ·obtain⟨c0,h1,h2,h3⟩:=h.dn p hd
  refine⟨c0,by rw[lko p hd];exact h1,h2,λw' hw'=>?_⟩
  rcases h3 w' hw' with⟨rfl,hm⟩|⟨c2,h4,h5⟩
  ·rcases List.mem_cons.1 hm with rfl|hm
   ·rw[hc]at h1
    cases h1
    exact .inr ⟨_,by rw[lk,if_pos rfl],by omega⟩
   ·exact .inl ⟨rfl,hm⟩
  ·right
   by_cases e:wto w'=wto w
   ·have:=hbet c2 (e▸h4)
    exact⟨_,by rw[lk,if_pos e],by omega⟩
   ·exact⟨c2,by rw[lk,if_neg e];exact h4,h5⟩
 ·rw[lk]at hl
  split at hl
  ·rename_i e
   cases hl
   exact .inr ⟨x,c,w,hx,by rw[lko x hx];exact hc,hwm,e.symm,rfl⟩
  ·rcases h.sup p c' hl with h1|⟨p',c1,w',h1,h2,h3,h4,h5⟩
   ·exact .inl h1
   ·exact .inr ⟨p',c1,w',h1,by rw[lko p' h1];exact h2,h3,h4,h5⟩
 ·rw[lk,if_neg,h.beg]
  intro e
  have:=hbet (0,0) (e▸h.beg)
  unfold okC K at *
  omega
theorem Inv.skip{y:Stp}{q':List Stp}(h:Inv W b U out done q lev x [])(hq':qeX q' q'.length)(hp:q.Perm (y::q'))(hd:qX done y.1=some 1):Inv W b U out done q' lev x [] where
 heap:=hq'
 bnd:=h.bnd
 qb z hz:=h.qb z (hp.mem_iff.2 (List.mem_cons_of_mem _ hz))
 pend p c hl:=by
  rcases h.pend p c hl with h1|h1
  ·exact .inl h1
  ·rcases List.mem_cons.1 (hp.mem_iff.1 h1)with rfl|h2
   ·exact .inl hd
   ·exact .inr h2
 qlev z hz:=h.qlev z (hp.mem_iff.2 (List.mem_cons_of_mem _ hz))
 dn:=h.dn
 sup:=h.sup
 beg:=h.beg
 keys:=h.keys
 dones:=h.dones
theorem Inv.take(hW:WOK W b U){y:Stp}{q':List Stp}(h:Inv W b U out done q lev x [])(hq':qeX q' q'.length)(hp:q.Perm (y::q'))(hmin:∀z∈q,K y.2<=K z.2)(hd:qX done y.1≠some 1):
  Inv W b U out (qaC done y.1 1) q' (K y.2) y.1 (W y.1)/\qX out y.1=some y.2/\y.1∈U/\okC (U.countP (isD done)) y.2/\U.countP (isD done)<U.countP (isD (qaC done y.1 1)):=by
 have hy:y∈q:=hp.mem_iff.2 List.mem_cons_self
 have hsm:=hW.small
 have hcn:=qi4 U done
 obtain⟨oky,c1,hc1,hle⟩:=h.qb y hy
 have hbc:=h.bnd _ _ hc1
 have hpd:(y.1,c1)∈q:=(h.pend _ _ hc1).resolve_left hd
 have heq:c1=y.2:=K_inj hbc.2 oky (by omega) (by omega) (by have:=hmin _ hpd;simp only at this;omega)
 subst heq
 have lk:∀p,qX (qaC done y.1 (1:Int)) p=if p=y.1 then some 1 else qX done p:=λp=>by
  split
  ·rename_i e;rw[e];exact qac _ _ _
  ·rename_i e;exact qaq e _ _
 have hcnt:U.countP (isD done)<U.countP (isD (qaC done y.1 1)):=by
  refine qjU (x:=y.1) (λp hp=>?_) U hbc.1 ?_ ?_
  ·rw[qhL]at hp ⊢
   rw[lk]
   split
   ·rfl
   ·exact hp
  ·cases hb:isD done y.1 with
   |false=>rfl
   |true=>exact absurd (qhL.1 hb) hd
  ·rw[qhL,lk,if_pos rfl]
 refine⟨⟨hq',λp c hl=>⟨(h.bnd p c hl).1,(h.bnd p c hl).2.mono (by omega)⟩,λz hz=>?_,λp c hl=>?_,λz hz=>hmin z (hp.mem_iff.2 (List.mem_cons_of_mem _ hz)),λp hd'=>?_,λp c hl=>?_,h.beg,h.keys,λp v hl=>?_⟩,hc1,hbc.1,oky,hcnt⟩
 ·obtain⟨h1,h2⟩:=h.qb z (hp.mem_iff.2 (List.mem_cons_of_mem _ hz))
  exact⟨h1.mono (by omega),h2⟩
 ·rw[lk]
  by_cases e:p=y.1
  ·exact .inl (by rw[if_pos e])
  ·rw[if_neg e]
   refine(h.pend p c hl).imp_right λhm=>?_
   rcases List.mem_cons.1 (hp.mem_iff.1 hm)with h2|h2
   ·exact absurd (by rw[<-h2]) e
   ·exact h2
 ·rw[lk]at hd'
  by_cases e:p=y.1
  ·subst e
   exact⟨_,hc1,Int.le_refl _,λw hw=>.inl ⟨rfl,hw⟩⟩
  ·rw[if_neg e]at hd'
   obtain⟨c0,h1,h2,h3⟩:=h.dn p hd'
   exact⟨c0,h1,Int.le_trans h2 (h.qlev y hy),λw hw=>.inr ((h3 w hw).resolve_left (λh=>by cases h.2))⟩
 ·refine(h.sup p c hl).imp_right ?_
  rintro⟨p',c',w,h1,h2⟩
  exact⟨p',c',w,by
   rw[lk]
   split
   ·rfl
   ·exact h1,h2⟩
 ·rw[lk]at hl
  split at hl
  ·cases hl;rfl
  ·exact h.dones p v hl
theorem Inv.start(hW:WOK W b U)(x:Pt):Inv W b U (qaC [] b (0,0)) [] [(b,(0,0))] 0 x []:=by
 have lk:∀p c,qX (qaC ([]:List (Pt×Pt)) b (0,0)) p=some c->p=b/\c=(0,0):=by
  intro p c h
  by_cases e:p=b
  ·rw[e,qac]at h
   exact⟨e,by cases h;rfl⟩
  ·rw[qaq e]at h
   cases h
 refine⟨λi h1 h2=>by simp at h2;omega,λp c h=>?_,λy hy=>?_,λp c h=>?_,λy hy=>?_,λp h=>(by cases h),λp c h=>.inl (lk p c h),qac _ _ _,by simp[qaC],λp v h=>(by cases h)⟩
 ·obtain⟨rfl,rfl⟩:=lk p c h
  exact⟨hW.beg,by unfold okC;simp only;omega⟩
 ·obtain rfl:y=(b,(0,0)):=by simpa using hy
  exact⟨by unfold okC;simp only;omega,_,qac _ _ _,Int.le_refl _⟩
 ·obtain⟨rfl,rfl⟩:=lk p c h
  exact .inr (by simp)
 ·obtain rfl:y=(b,(0,0)):=by simpa using hy
  unfold K;simp
end
structure Fin (W:Pt->List Way) (b:Pt) (U:List Pt) (out:List (Pt×Pt)):Prop where
 bnd:∀p c,qX out p=some c->p∈U/\okC 400 c
 rel:∀p c,qX out p=some c->∀w∈W p,∃c2,qX out (wto w)=some c2/\K c2<=K c+K (wc w)
 sup:∀p c,qX out p=some c->(p=b/\c=(0,0))\/∃p' c' w,qX out p'=some c'/\w∈W p'/\wto w=p/\c=qaj c' (wc w)
 beg:qX out b=some (0,0)
 keys:(out.map (·.1)).Nodup
theorem Inv.fin{W:Pt->List Way}{b:Pt}{U:List Pt}{out:List (Pt×Pt)}{done:List (Pt×Int)}{lev:Int}{x:Pt}(hW:WOK W b U)(h:Inv W b U out done [] lev x []):Fin W b U out where
 bnd p c hl:=⟨(h.bnd p c hl).1,(h.bnd p c hl).2.mono (by have:=qi4 U done;have:=hW.small;omega)⟩
 rel p c hl w hw:=by
  have hd:=(h.pend p c hl).resolve_right (by simp)
  obtain⟨c0,h1,_,h3⟩:=h.dn p hd
  rw[hl]at h1
  cases h1
  exact(h3 w hw).resolve_left (λh=>by cases h.2)
 sup p c hl:=(h.sup p c hl).imp_right λ⟨p',c',w,_,h2⟩=>⟨p',c',w,h2⟩
 beg:=h.beg
 keys:=h.keys
end Go.Proofs.Try.V.Cv
