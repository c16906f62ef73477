/- The journey that the program finds is short, and each leg is right, plain. No condition beyond those typed in each theorem. -/
import Derived.Test.YtmlocmhkfnojbaaD11
namespace Go.Proofs.Try.V.Cv
open Go.Vi Go.Proofs Go.RowKit
set_option maxRecDepth 100000
def Leaves(a:Atl)(p:Pt)(w:Way)(r:qb6):Prop:=
 (r.1=p.1\/r.2.1=p.1)/\a.2.1<=r.2.2.2.1/\a.2.2.1<=r.2.2.2.2/\(wto w).1=r.1+r.2.1-p.1/\
  ((p.2+r.2.2.1<=a.2.2.2.2.2.1/\w.2.1=0/\(wto w).2=p.2+r.2.2.1/\wc w=(r.2.2.1,1))\/
   (Wy.pkOf a.1.1 p.1=true/\0<p.2/\r.2.2.1<=a.2.2.2.2.2.1/\w.2.1=a.2.2.2.2.2.2/\(wto w).2=r.2.2.1/\wc w=(a.2.2.2.2.2.2+r.2.2.1,1)))
theorem qk1{pk:Bool}{lo:Lor}{t u:Int}{w:Way}{j:Nat}{r:qb6}:w∈Wy.wayR pk lo t u j r↔((r.1=t\/r.2.1=t)/\lo.1<=r.2.2.2.1/\lo.2.1<=r.2.2.2.2)/\
  ((u+r.2.2.1<=lo.2.2.2.2.1/\w=((j:Int),0,(r.1+r.2.1-t,u+r.2.2.1),(r.2.2.1,1)))\/((pk=true/\0<u/\r.2.2.1<=lo.2.2.2.2.1)/\w=((j:Int),lo.2.2.2.2.2,(r.1+r.2.1-t,r.2.2.1),(lo.2.2.2.2.2+r.2.2.1,1)))):=by
 unfold Wy.wayR
 split
 ·rename_i h0
  rw[List.mem_append]
  constructor
  ·rintro(h|h)
   ·split at h
    ·rename_i h1;exact⟨h0,.inl ⟨h1,by simpa using h⟩⟩
    ·cases h
   ·split at h
    ·rename_i h1;exact⟨h0,.inr ⟨h1,by simpa using h⟩⟩
    ·cases h
  ·rintro⟨_,⟨h1,h2⟩|⟨h1,h2⟩⟩
   ·left;rw[if_pos h1,h2];simp
   ·right;rw[if_pos h1,h2];simp
 ·rename_i h0
  constructor
  ·intro h;cases h
  ·intro h;exact absurd h.1 h0
theorem qhV{pk:Bool}{lo:Lor}{t u:Int}{w:Way}:∀{j:Nat} {rs:List qb6},w∈Wy.wayL pk lo t u j rs↔∃i r,rs[i]? = some r/\w∈Wy.wayR pk lo t u (j+i) r
 |_,[]=>by
  unfold Wy.wayL
  constructor
  ·intro h;cases h
  ·rintro⟨i,r,h,_⟩;simp at h
 |j,r::rs=>by
  unfold Wy.wayL
  rw[List.mem_append,qhV]
  constructor
  ·rintro(h|⟨i,r',h1,h2⟩)
   ·exact⟨0,r,rfl,h⟩
   ·exact⟨i+1,r',by simpa using h1,by rw[show j+(i+1)=j+1+i by omega];exact h2⟩
  ·rintro⟨i,r',h1,h2⟩
   cases i with
   |zero=>
    left
    have:r=r':=by simpa using h1
    subst this
    exact h2
   |succ i=>
    right
    exact⟨i,r',by simpa using h1,by rw[show j+1+i=j+(i+1) by omega];exact h2⟩
theorem qfy{a:Atl}{p:Pt}{w:Way}(h:w∈qQ a p):∃(i:Nat) (r:qb6),a.1.2[i]? = some r/\w.1=(i:Int)/\Leaves a p w r:=by
 obtain⟨i,r,h1,h2⟩:=qhV.1 h
 rw[qk1,Nat.zero_add]at h2
 obtain⟨⟨h3,h4,h5⟩,⟨h6,rfl⟩|⟨⟨h6,h7,h8⟩,rfl⟩⟩:=h2
 ·exact⟨i,r,h1,rfl,h3,h4,h5,rfl,.inl ⟨h6,rfl,rfl,rfl⟩⟩
 ·exact⟨i,r,h1,rfl,h3,h4,h5,rfl,.inr ⟨h6,h7,h8,rfl,rfl,rfl⟩⟩
theorem qfI{a:Atl}{p:Pt}{i:Nat}{r:qb6}(h1:a.1.2[i]? = some r){w:Way}(hw:w.1=(i:Int))(h:Leaves a p w r):w∈qQ a p:=by
 obtain⟨h3,h4,h5,h6,h⟩:=h
 refine qhV.2 ⟨i,r,h1,?_⟩
 rw[qk1,Nat.zero_add]
 obtain⟨w1,w2,w3,w4⟩:=w
 unfold wto wc at *
 simp only at *
 refine⟨⟨h3,h4,h5⟩,h.imp (λ⟨e1,e2,e3,e4⟩=>⟨e1,?_⟩) (λ⟨e0,e1,e2,e3,e4,e5⟩=>⟨⟨e0,e1,e2⟩,?_⟩)⟩
 ·rw[hw,e2,e4,<-e3,<-h6]
 ·rw[hw,e3,e5,<-e4,<-h6]
section
variable {a:Atl} {b:Pt} {U:List Pt} {out:List (Pt×Pt)} {to:Int} {best:Pt}
theorem way_less(hA:AOK a){p p':Pt}(ht:p'.1=p.1)(h0:0<=p'.2)(hle:p'.2<=p.2){w:Way}(hw:w∈qQ a p):∃w'∈qQ a p',(wto w').1=(wto w).1/\0<=(wto w').2/\(wto w').2<=(wto w).2/\K (wc w')<=K (wc w):=by
 obtain⟨i,r,h1,h2,h3,h4,h5,h6,h7⟩:=qfy hw
 have hr:=hA.road r (List.mem_of_getElem? h1)
 have hrest:=hA.rest
 have go:p'.2+r.2.2.1<=a.2.2.2.2.2.1->p'.2+r.2.2.1<=(wto w).2->r.2.2.1*1000000+1<=K (wc w)->∃w'∈qQ a p',(wto w').1=(wto w).1/\0<=(wto w').2/\(wto w').2<=(wto w).2/\K (wc w')<=K (wc w):=λe1 e2 e3=>
  ⟨((i:Int),0,(r.1+r.2.1-p'.1,p'.2+r.2.2.1),(r.2.2.1,1)),qfI h1 rfl ⟨by rw[ht];exact h3,h4,h5,rfl,.inl ⟨e1,rfl,rfl,rfl⟩⟩,by rw[h6,<-ht];rfl,by unfold wto;simp only;omega,e2,e3⟩
 rcases h7 with⟨e1,e2,e3,e4⟩|⟨e0,e1,e2,e3,e4,e5⟩
 ·exact go (by omega) (by omega) (by rw[e4];exact Int.le_refl _)
 ·rcases Int.lt_or_le 0 p'.2 with hp|hp
  ·exact⟨w,qfI h1 h2 ⟨by rw[ht];exact h3,h4,h5,by rw[ht];exact h6,.inr ⟨by rw[ht];exact e0,hp,e2,e3,e4,e5⟩⟩,rfl,by omega,Int.le_refl _,Int.le_refl _⟩
  ·exact go (by omega) (by omega) (by rw[e5];unfold K;simp only;omega)
theorem dom(hA:AOK a)(hF:Fin (qQ a) b U out){p:Pt}(hg:qcH (qQ a) out to best p):∀{f:Pt},qX out p=some f->∀{p' c:Pt},p'.1=p.1->0<=p'.2->p'.2<=p.2->qX out p'=some c->∃e ce,e.1=to/\qX out e=some ce/\K ce+K f<=K c+K best:=by
 induction hg with
 |stop p c0 h1 h2 h3=>
  intro f hf p' c ht _ _ hc
  rw[h2]at hf
  cases hf
  exact⟨p',c,by rw[ht];exact h1,hc,by omega⟩
 |step p c0 w c2 h1 h2 h3 h4 _ ih=>
  intro f hf p' c ht h0 hle hc
  rw[h1]at hf
  cases hf
  obtain⟨w',hw',t1,t2,t3,t4⟩:=way_less hA ht h0 hle h2
  obtain⟨c',hc',hk⟩:=hF.rel p' c hc w' hw'
  obtain⟨e,ce,e1,e2,e3⟩:=ih h3 t1 t2 t3 hc'
  exact⟨e,ce,e1,e2,by omega⟩
theorem no_dom(hA:AOK a)(hF:Fin (qQ a) b U out)(hB:Best out to best){p:Pt}(hg:qcH (qQ a) out to best p){f:Pt}(hf:qX out p=some f){u:Int}{c:Pt}(hc:qX out (p.1,u)=some c)(h0:0<=u)(hle:u<=p.2):K f<=K c:=by
 obtain⟨e,ce,e1,e2,e3⟩:=dom hA hF hg hf (p':=(p.1,u)) rfl h0 hle hc
 have:=hB.least e ce e2 e1
 omega
theorem qnd:∀(l U:List Nat),l.Nodup->l⊆U->l.length<=U.length
 |[],_,_,_=>Nat.zero_le _
 |x::l,U,hn,hs=>by
  rw[List.nodup_cons]at hn
  have hx:=hs (List.mem_cons_self (a:=x) (l:=l))
  have:=qnd l (U.erase x) hn.2 (λy hy=>(List.mem_erase_of_ne (λe=>hn.1 (by rw[<-e];exact hy))).2 (hs (List.mem_cons_of_mem _ hy)))
  rw[List.length_erase_of_mem hx]at this
  have:0<U.length:=List.length_pos_of_mem hx
  simp only[List.length_cons]
  omega
theorem qlt{n:Nat}{S:List Int}(hn:S.Nodup)(hs:∀t∈S,0<=t/\t<(n:Int)):S.length<=n:=by
 have h1:(S.map Int.toNat).Nodup:=List.pairwise_map.2 (List.Pairwise.imp_of_mem (λ{x y} hx hy h e=>h (by have:=hs x hx;have:=hs y hy;omega)) hn)
 have h2:S.map Int.toNat⊆List.range n:=λx hx=>by
  obtain⟨t,ht,rfl⟩:=List.mem_map.1 hx
  have:=hs t ht
  rw[List.mem_range]
  omega
 have:=qnd _ _ h1 h2
 simpa using this
theorem qnl(hA:AOK a){p:Pt}(hp:p∈Ul a.1.1.length):0<=p.1/\p.1<(a.1.1.length:Int)/\0<=p.2:=by
 rw[qiv]at hp
 exact⟨hp.1,hp.2.1,hp.2.2.1⟩
theorem qlD(hA:AOK a)(hF:Fin (qQ a) (a.2.2.2.1,0) (Ul a.1.1.length) out)(hB:Best out to best):∀(m:Nat) {p f:Pt} {now:Int} {j r:List Leg} (S R:List Int),qX out p=some f->qcH (qQ a) out to best p->
  S.Nodup->R.Nodup->(∀t∈S,(0<=t/\t<(a.1.1.length:Int))/\∃u c,qX out (t,u)=some c/\0<=u/\u<p.2/\K c<K f)->(∀t∈R,(0<=t/\t<(a.1.1.length:Int))/\∃u c,qX out (t,u)=some c/\0<u/\K c<K f)->
  jr (qQ a) out to best m p now j=some r->r.length+S.length+5*R.length<=j.length+29
 |0,_,_,_,_,_,_,_,_,_,_,_,_,_,h=>by cases h
 |m+1,p,f,now,j,r,S,R,hf,hg,hS,hR,hSf,hRf,h=>by
  have hW:=hA.wok
  have hpU:=(hF.bnd _ _ hf).1
  have hpt:=qnl hA hpU
  have h5:=hA.towns.2
  have hpS:p.1∉S:=λhm=>by
   obtain⟨_,u,c,h1,h2,h3,h4⟩:=hSf _ hm
   have:=no_dom hA hF hB hg hf h1 h2 (by omega)
   omega
  have hS1:(p.1::S).Nodup:=List.nodup_cons.2 ⟨hpS,hS⟩
  have hl1:(p.1::S).length<=a.1.1.length:=qlt hS1 (λt ht=>by
   rcases List.mem_cons.1 ht with rfl|ht
   ·exact⟨hpt.1,hpt.2.1⟩
   ·exact(hSf t ht).1)
  have hlR:R.length<=a.1.1.length:=qlt hR (λt ht=>(hRf t ht).1)
  rw[List.length_cons]at hl1
  unfold jr at h
  split at h
  ·cases h
   omega
  ·split at h
   ·cases h
   ·rename_i w hfind
    have hwm:=List.mem_of_find?_eq_some hfind
    have hsel:Sel (qQ a) out to best p w:=by simpa using List.find?_some hfind
    obtain⟨hg2,f',c2,k1,k2,k3⟩:=hsel
    rw[hf]at k1
    cases k1
    have hKp:=Kpos hW hpU hwm
    obtain⟨i,r0,e1,e2,e3,e4,e5,e6,e7⟩:=qfy hwm
    have hr0:=hA.road r0 (List.mem_of_getElem? e1)
    have hrec:∀S' R':List Int,S'.Nodup->R'.Nodup->(∀t∈S',(0<=t/\t<(a.1.1.length:Int))/\∃u c,qX out (t,u)=some c/\0<=u/\u<(wto w).2/\K c<K c2)->(∀t∈R',(0<=t/\t<(a.1.1.length:Int))/\∃u c,qX out (t,u)=some c/\0<u/\K c<K c2)->r.length+S'.length+5*R'.length<=j.length+30:=by
     intro S' R' g1 g2 g3 g4
     have:=qlD hA hF hB m S' R' k2 hg2 g1 g2 g3 g4 h
     rw[List.length_append,List.length_cons,List.length_nil]at this
     omega
    have hRf':∀t∈R,(0<=t/\t<(a.1.1.length:Int))/\∃u c,qX out (t,u)=some c/\0<u/\K c<K c2:=λt ht=>by
     obtain⟨q0,u,c,q1,q2,q3⟩:=hRf t ht
     exact⟨q0,u,c,q1,q2,by omega⟩
    rcases e7 with⟨d1,d2,d3,d4⟩|⟨d0,d1,d2,d3,d4,d5⟩
    ·have:=hrec (p.1::S) R hS1 hR (λt ht=>by
      rcases List.mem_cons.1 ht with rfl|ht
      ·exact⟨⟨hpt.1,hpt.2.1⟩,p.2,f,hf,hpt.2.2,by omega,by omega⟩
      ·obtain⟨q0,u,c,q1,q2,q3,q4⟩:=hSf t ht
       exact⟨q0,u,c,q1,q2,by omega,by omega⟩) hRf'
     rw[List.length_cons]at this
     omega
    ·have hpR:p.1∉R:=λhm=>by
      obtain⟨_,u,c,q1,q2,q3⟩:=hRf _ hm
      have hw2:w∈qQ a (p.1,u):=qfI e1 e2 ⟨e3,e4,e5,e6,.inr ⟨d0,q2,d2,d3,d4,d5⟩⟩
      obtain⟨c3,q4,q5⟩:=hF.rel _ _ q1 w hw2
      rw[k2]at q4
      cases q4
      omega
     have:=hrec [] (p.1::R) List.nodup_nil (List.nodup_cons.2 ⟨hpR,hR⟩) (λt ht=>by cases ht) (λt ht=>by
      rcases List.mem_cons.1 ht with rfl|ht
      ·exact⟨⟨hpt.1,hpt.2.1⟩,p.2,f,hf,d1,by omega⟩
      ·exact hRf' t ht)
     rw[List.length_cons,List.length_nil]at this
     omega
theorem qjl(hA:AOK a)(hF:Fin (qQ a) (a.2.2.2.1,0) (Ul a.1.1.length) out)(hB:Best out to best){r:List Leg}(h:journey a out to best=some r):r.length<=29:=by
 have:=qlD hA hF hB 401 [] [] hF.beg (qlF hA.wok hF hB) List.nodup_nil List.nodup_nil (λt ht=>by cases ht) (λt ht=>by cases ht) h
 simpa using this
end
end Go.Proofs.Try.V.Cv
