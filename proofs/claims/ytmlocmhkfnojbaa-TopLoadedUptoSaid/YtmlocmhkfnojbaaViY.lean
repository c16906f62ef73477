/- The abstract interpreter Vi, part C, begun: a verified interpreter over the model's code, whose run of a function gives the contract of the function. No condition beyond those typed in each theorem. -/
import Derived.Test.YtmlocmhkfnojbaaViB
import Derived.Maps.Range
import Derived.Maps.RangeWalk
import Derived.Carry
import Derived.KernelRfl
import Derived.Shelf.Slices.Reverse
import Derived.Test.YtmlocmhkfnojbaaRows
import Derived.Below
import Derived.ChangeSame
import Derived.OpenShut
import Derived.ProofKit
import Derived.WideKeyArgs
import Derived.JoinedCond
import Derived.IntWalk
namespace Go.Vi
section
variable {P:Program} {C:Ctx} {cfg:jG} {R:Type} {r:R} {s:St} {a:Act} {w:World} {H:FH} {Φ:Nat->qB} {dst:Option Nat} {ty:TypeId} {pos:String} {after:Array Edge} {guard:Option (Nat×Bool)} {k:St->Option R}
theorem St.obj_freeze(s:St)(id j:Nat):(s.freeze id).obj j=if id=j then none else s.obj j:=by
 unfold St.freeze
 cases ho:s.obj id with
 |none=>
  simp only
  split
  ·rename_i e;rw[<-e];exact ho
  ·rfl
 |some o=>exact St.obj_setObj s id j none
theorem qg.freezeAll:∀(ids:List Nat) {s:St} {H:FH},qg P C s a w H Φ->
  ∃Hf,H.le Hf/\(∀b c,Hf b=some c->H b=some c\/∃id∈ids,∃o,s.obj id=some o/\b∈(Φ id).fp)/\Fzn w Hf Φ s.obj ids/\qg P C (s.freezeAll ids) a w Hf Φ/\∀j,(s.freezeAll ids).obj j=if j∈ids then none else s.obj j
 |[],s,H,h=>⟨H,FH.le_refl _,λ_ _ hb=>.inl hb,(λid hid=>by cases hid),h,λj=>by simp[St.freezeAll]⟩
 |i::r,s,H,h=>by
  obtain⟨H1,k1,k2,k3,k4⟩:=h.freeze i
  obtain⟨H2,m1,m2,m3,m4,m5⟩:=qg.freezeAll r k4
  refine⟨H2,FH.le_trans k1 m1,?_,?_,m4,?_⟩
  ·intro b c hb
   rcases m2 b c hb with hb|⟨id,hid,o,ho,hbf⟩
   ·rcases k2 b c hb with hb|⟨o,ho,hbf⟩
    ·exact .inl hb
    ·exact .inr ⟨i,by simp,o,ho,hbf⟩
   ·rw[St.obj_freeze]at ho
    split at ho
    ·cases ho
    ·exact .inr ⟨id,by simp[hid],o,ho,hbf⟩
  ·intro id hid o ho b hb c hc
   by_cases e:i=id
   ·subst e
    exact m1 _ _ (k3 o ho b hb c hc)
   ·rcases List.mem_cons.1 hid with h1|hid
    ·exact absurd h1.symm e
    ·exact m3 id hid o (by rw[St.obj_freeze,if_neg e];exact ho) b hb c hc
  ·intro j
   show((s.freeze i).freezeAll r).obj j=_
   rw[m5 j,St.obj_freeze]
   by_cases h1:j∈r
   ·simp[h1]
   ·by_cases h2:i=j
    ·simp[h2]
    ·have h3:j≠i:=λe=>h2 e.symm
     simp[h1,h2,h3]
def qeL(n m j:Nat):Prop:=∀i,n<=i->i<n+m->j≠i/\j≠qbd true i/\j≠qbd false i
theorem qdj{n m j:Nat}(h:qeL n (m+1) j):qeL (n+1) m j:=λi h1 h2=>h i (by omega) (by omega)
theorem qfO{n m:Nat}(h:n+(m+1)<3000000):qeL (n+1) m n:=λi h1 h2=>⟨by omega,by have:=@qgD true i;omega,by have:=@qgD false i;omega⟩
theorem qmY{nn:Bool}{n m:Nat}(h:n+(m+1)<3000000):qeL (n+1) m (qbd nn n):=λi h1 h2=>
 ⟨by have:=@qgD nn n;omega,qju (by omega) (by omega) (by omega),qju (by omega) (by omega) (by omega)⟩
theorem qd1{n m j:Nat}(h:qeL n (m+1) j):j≠n:=(h n (Nat.le_refl _) (by omega)).1
theorem qfo{nn:Bool}{n m j:Nat}(h:qeL n (m+1) j):j≠qbd nn n:=by
 cases nn with
 |true=>exact(h n (Nat.le_refl _) (by omega)).2.1
 |false=>exact(h n (Nat.le_refl _) (by omega)).2.2
theorem qgJ:∀(rs:List RTy) {n:Nat} {d:RDens rs} {us:List Value} {Ψs:List qB} {s:St} {Φ:Nat->qB},qg P C s a w H Φ->qal P w H rs d us Ψs->(∀i,i<10000000->C.pin i=none)->n+rs.length<3000000->
  (∀b∈qd Ψs,H b=none/\(C.M0 b\/C.w0.heap.size<=b)/\b<w.heap.size/\∀j o,s.obj j=some o->b∉(Φ j).fp)->(qd Ψs).Nodup->
  ∃Φ',qg P C (jI s n rs d).1 a w H Φ'/\qh P C w H Φ' (jI s n rs d).1.obj (jI s n rs d).2 (.tuple us.toArray)/\(jI s n rs d).2.isTup=true/\∀j,qeL n rs.length j->(jI s n rs d).1.obj j=s.obj j/\Φ' j=Φ j
 |[],n,d,us,Ψs,s,Φ,hs,hr,_,_,_,_=>by
  obtain⟨rfl,rfl⟩:=hr
  exact⟨Φ,hs,rfl,rfl,λ_ _=>⟨rfl,rfl⟩⟩
 |.v τ::rs,n,d,us,Ψs,s,Φ,hs,hr,hpin,hlt,hb,hnd=>by
  obtain⟨v,vs',φ,Φs',rfl,rfl,hfz,hφ,hv,hr⟩:=hr
  obtain⟨Φ',h1,h2,h3,h4⟩:=qgJ rs (n:=n+1) hs hr hpin (by rw[List.length_cons]at hlt;omega) (λb hb'=>hb b (by simpa[qd,hφ]using hb')) (by simpa[qd,hφ]using hnd)
  exact⟨Φ',h1,⟨v,vs',rfl,⟨hfz,hv⟩,h2⟩,h3,λj hj=>h4 j (qdj hj)⟩
 |.own tid e::rs,n,d,us,Ψs,s,Φ,hs,hr,hpin,hlt,hb,hnd=>by
  obtain⟨v,vs',φ,Φs',rfl,rfl,hv,hok,hr⟩:=hr
  have hnd':φ.fp.Nodup/\(qd Φs').Nodup/\∀b∈φ.fp,b∉qd Φs':=by
   simp only[qd,List.flatMap_cons,List.nodup_append]at hnd
   exact⟨hnd.1,hnd.2.1,λb h1 h2=>hnd.2.2 b h1 b h2 rfl⟩
  have h0:=hs.newObj (jM.refl _ w) (hpin n (by rw[List.length_cons]at hlt;omega)) (qbb (by rw[List.length_cons]at hlt;omega)) (row:=true) (τ:=.list true tid e) (x:=d.1) (φ:=φ) hok (λb hb'=>by
   obtain⟨k1,k2,k3,k4⟩:=hb b (by simp[qd,hb'])
   exact⟨k1,k2,k3,λj o _ hj=>k4 j o hj⟩)
  obtain⟨Φ',h1,h2,h3,h4⟩:=qgJ rs (n:=n+1) h0 hr hpin (by rw[List.length_cons]at hlt;omega) (λb hb'=>by
   obtain⟨k1,k2,k3,k4⟩:=hb b (by simp only[qd,List.flatMap_cons,List.mem_append];exact .inr hb')
   refine⟨k1,k2,k3,λj o hj=>?_⟩
   rw[St.newObj,St.obj_setObj]at hj
   split at hj
   ·rename_i e1;subst e1;rw[qr];exact λh1=>hnd'.2.2 b h1 hb'
   ·rename_i e1;rw[qR _ _ (λe=>e1 e.symm)];exact k4 j o hj) hnd'.2.1
  obtain⟨h5,h6⟩:=h4 n (qfO (by rw[List.length_cons]at hlt;omega))
  refine⟨Φ',h1,⟨v,vs',rfl,⟨⟨true,.list true tid e,d.1⟩,⟨.list true tid e,d.1⟩,?_,qH _ _,?_⟩,h2⟩,h3,λj hj=>?_⟩
  ·show(jI ((s.kill n).setObj n _) (n+1) rs d.2).1.obj n=_
   have h5':=h5
   rw[St.newObj,St.obj_setObj,if_pos rfl]at h5'
   exact h5'
  ·simp only[List.isEmpty_nil,Bool.and_self]
   rw[h6,qr,hv]
  ·obtain⟨h7,h8⟩:=h4 j (qdj hj)
   refine⟨?_,by rw[h8,qR _ _ (qd1 hj)]⟩
   show(jI ((s.kill n).setObj n _) (n+1) rs d.2).1.obj j=_
   rw[St.newObj,St.obj_setObj,if_neg (λe=>qd1 hj e.symm)]at h7
   exact h7
 |.sure nn tid e::rs,n,d,us,Ψs,s,Φ,hs,hr,hpin,hlt,hb,hnd=>by
  obtain⟨v,vs',φ,Φs',rfl,rfl,hv,hok,hsv,hr⟩:=hr
  have hnd':φ.fp.Nodup/\(qd Φs').Nodup/\∀b∈φ.fp,b∉qd Φs':=by
   simp only[qd,List.flatMap_cons,List.nodup_append]at hnd
   exact⟨hnd.1,hnd.2.1,λb h1 h2=>hnd.2.2 b h1 b h2 rfl⟩
  have h0:=hs.newObj (jM.refl _ w) (hpin (qbd nn n) (qgC (by rw[List.length_cons]at hlt;omega))) (qi5 (by rw[List.length_cons]at hlt;omega) hsv) (row:=true) (τ:=.list true tid e) (x:=d.1) (φ:=φ) hok (λb hb'=>by
   obtain⟨k1,k2,k3,k4⟩:=hb b (by simp[qd,hb'])
   exact⟨k1,k2,k3,λj o _ hj=>k4 j o hj⟩)
  obtain⟨Φ',h1,h2,h3,h4⟩:=qgJ rs (n:=n+1) h0 hr hpin (by rw[List.length_cons]at hlt;omega) (λb hb'=>by
   obtain⟨k1,k2,k3,k4⟩:=hb b (by simp only[qd,List.flatMap_cons,List.mem_append];exact .inr hb')
   refine⟨k1,k2,k3,λj o hj=>?_⟩
   rw[St.newObj,St.obj_setObj]at hj
   split at hj
   ·rename_i e1;subst e1;rw[qr];exact λh1=>hnd'.2.2 b h1 hb'
   ·rename_i e1;rw[qR _ _ (λe=>e1 e.symm)];exact k4 j o hj) hnd'.2.1
  obtain⟨h5,h6⟩:=h4 (qbd nn n) (qmY (by rw[List.length_cons]at hlt;omega))
  refine⟨Φ',h1,⟨v,vs',rfl,⟨⟨true,.list true tid e,d.1⟩,⟨.list true tid e,d.1⟩,?_,qH _ _,?_⟩,h2⟩,h3,λj hj=>?_⟩
  ·show(jI ((s.kill (qbd nn n)).setObj (qbd nn n) _) (n+1) rs d.2).1.obj (qbd nn n)=_
   have h5':=h5
   rw[St.newObj,St.obj_setObj,if_pos rfl]at h5'
   exact h5'
  ·simp only[List.isEmpty_nil,Bool.and_self]
   rw[h6,qr,hv]
  ·obtain⟨h7,h8⟩:=h4 j (qdj hj)
   refine⟨?_,by rw[h8,qR _ _ (qfo hj)]⟩
   show(jI ((s.kill (qbd nn n)).setObj (qbd nn n) _) (n+1) rs d.2).1.obj j=_
   rw[St.newObj,St.obj_setObj,if_neg (λe=>qfo hj e.symm)]at h7
   exact h7
 |.ownv τ::rs,n,d,us,Ψs,s,Φ,hs,hr,hpin,hlt,hb,hnd=>by
  obtain⟨v,vs',φ,Φs',rfl,rfl,hv,hok,hr⟩:=hr
  have hnd':φ.fp.Nodup/\(qd Φs').Nodup/\∀b∈φ.fp,b∉qd Φs':=by
   simp only[qd,List.flatMap_cons,List.nodup_append]at hnd
   exact⟨hnd.1,hnd.2.1,λb h1 h2=>hnd.2.2 b h1 b h2 rfl⟩
  have h0:=hs.newObj (jM.refl _ w) (hpin n (by rw[List.length_cons]at hlt;omega)) (qbb (by rw[List.length_cons]at hlt;omega)) (row:=true) (τ:=τ) (x:=d.1) (φ:=φ) hok (λb hb'=>by
   obtain⟨k1,k2,k3,k4⟩:=hb b (by simp[qd,hb'])
   exact⟨k1,k2,k3,λj o _ hj=>k4 j o hj⟩)
  obtain⟨Φ',h1,h2,h3,h4⟩:=qgJ rs (n:=n+1) h0 hr hpin (by rw[List.length_cons]at hlt;omega) (λb hb'=>by
   obtain⟨k1,k2,k3,k4⟩:=hb b (by simp only[qd,List.flatMap_cons,List.mem_append];exact .inr hb')
   refine⟨k1,k2,k3,λj o hj=>?_⟩
   rw[St.newObj,St.obj_setObj]at hj
   split at hj
   ·rename_i e1;subst e1;rw[qr];exact λh1=>hnd'.2.2 b h1 hb'
   ·rename_i e1;rw[qR _ _ (λe=>e1 e.symm)];exact k4 j o hj) hnd'.2.1
  obtain⟨h5,h6⟩:=h4 n (qfO (by rw[List.length_cons]at hlt;omega))
  refine⟨Φ',h1,⟨v,vs',rfl,⟨⟨true,τ,d.1⟩,⟨τ,d.1⟩,?_,qH _ _,?_⟩,h2⟩,h3,λj hj=>?_⟩
  ·show(jI ((s.kill n).setObj n _) (n+1) rs d.2).1.obj n=_
   have h5':=h5
   rw[St.newObj,St.obj_setObj,if_pos rfl]at h5'
   exact h5'
  ·simp only[List.isEmpty_nil,Bool.and_self]
   rw[h6,qr,hv]
  ·obtain⟨h7,h8⟩:=h4 j (qdj hj)
   refine⟨?_,by rw[h8,qR _ _ (qd1 hj)]⟩
   show(jI ((s.kill n).setObj n _) (n+1) rs d.2).1.obj j=_
   rw[St.newObj,St.obj_setObj,if_neg (λe=>qd1 hj e.symm)]at h7
   exact h7
 |.optr τ::rs,n,d,us,Ψs,s,Φ,hs,hr,hpin,hlt,hb,hnd=>by
  obtain⟨v,vs',φ,Φs',rfl,rfl,hv,hok,hr⟩:=hr
  have hnd':φ.fp.Nodup/\(qd Φs').Nodup/\∀b∈φ.fp,b∉qd Φs':=by
   simp only[qd,List.flatMap_cons,List.nodup_append]at hnd
   exact⟨hnd.1,hnd.2.1,λb h1 h2=>hnd.2.2 b h1 b h2 rfl⟩
  have h0:=hs.newObj (jM.refl _ w) (hpin n (by rw[List.length_cons]at hlt;omega)) (qbb (by rw[List.length_cons]at hlt;omega)) (row:=false) (τ:=τ) (x:=d.1) (φ:=φ) hok (λb hb'=>by
   obtain⟨k1,k2,k3,k4⟩:=hb b (by simp[qd,hb'])
   exact⟨k1,k2,k3,λj o _ hj=>k4 j o hj⟩)
  obtain⟨Φ',h1,h2,h3,h4⟩:=qgJ rs (n:=n+1) h0 hr hpin (by rw[List.length_cons]at hlt;omega) (λb hb'=>by
   obtain⟨k1,k2,k3,k4⟩:=hb b (by simp only[qd,List.flatMap_cons,List.mem_append];exact .inr hb')
   refine⟨k1,k2,k3,λj o hj=>?_⟩
   rw[St.newObj,St.obj_setObj]at hj
   split at hj
   ·rename_i e1;subst e1;rw[qr];exact λh1=>hnd'.2.2 b h1 hb'
   ·rename_i e1;rw[qR _ _ (λe=>e1 e.symm)];exact k4 j o hj) hnd'.2.1
  obtain⟨h5,h6⟩:=h4 n (qfO (by rw[List.length_cons]at hlt;omega))
  refine⟨Φ',h1,⟨v,vs',rfl,⟨⟨false,τ,d.1⟩,⟨τ,d.1⟩,φ.b,0,?_,rfl,qH _ _,?_,hv⟩,h2⟩,h3,λj hj=>?_⟩
  ·show(jI ((s.kill n).setObj n _) (n+1) rs d.2).1.obj n=_
   have h5':=h5
   rw[St.newObj,St.obj_setObj,if_pos rfl]at h5'
   exact h5'
  ·rw[h6,qr]
   exact j6 _ _ _ _
  ·obtain⟨h7,h8⟩:=h4 j (qdj hj)
   refine⟨?_,by rw[h8,qR _ _ (qd1 hj)]⟩
   show(jI ((s.kill n).setObj n _) (n+1) rs d.2).1.obj j=_
   rw[St.newObj,St.obj_setObj,if_neg (λe=>qd1 hj e.symm)]at h7
   exact h7
theorem qkx{os:Nat->Option Obj}{av:AV}{us:List Value}(ht:av.isTup=true)(h:qh P C w H Φ os av (.tuple us.toArray)):qh P C w H Φ os av.lone (qap us):=by
 have hl:=qas ht h
 match av,ht with
 |.nil,_=>
  match us,hl with
  |[],_=>exact h
 |.cons b .nil,_=>
  match us,hl with
  |[u],hl=>exact hl.1
  |_::_::_,hl=>exact hl.2.elim
 |.cons b (.cons c d),_=>
  match us,hl with
  |_::_::_,_=>exact h
  |[_],hl=>exact hl.2.elim
theorem qbC{α:Type}{n:Nat}{x:α}:∀{l:List (Nat×α)},lk l n=some x->(n,x)∈l
 |[],h=>by cases h
 |(m,y)::l,h=>by
  rw[jQ]at h
  cases hb:Nat.beq m n with
  |true=>rw[hb]at h;cases h;obtain rfl:=Nat.eq_of_beq_eq_true hb;simp
  |false=>rw[hb]at h;exact List.mem_cons_of_mem _ (qbC h)
theorem lk_not{α:Type}{n:Nat}:∀{l:List (Nat×α)},lk l n=none->∀x∈l,x.1≠n
 |[],_,x,hx=>by cases hx
 |(m,y)::l,h,x,hx=>by
  rw[jQ]at h
  cases hb:Nat.beq m n with
  |true=>rw[hb]at h;cases h
  |false=>
   rw[hb]at h
   rcases List.mem_cons.1 hx with rfl|hx
   ·exact Nat.ne_of_beq_eq_false hb
   ·exact lk_not h x hx
theorem qgZ{α:Type}{f:α->List Nat}:∀{l:List α},(l.flatMap f).Nodup->∀x∈l,∀y∈l,x≠y->∀b∈f x,b∉f y
 |[],_,x,hx,_,_,_,_,_=>by cases hx
 |z::l,h,x,hx,y,hy,hne,b,hb=>by
  simp only[List.flatMap_cons,List.nodup_append]at h
  intro hb'
  rcases List.mem_cons.1 hx with rfl|hx2
  ·rcases List.mem_cons.1 hy with rfl|hy2
   ·exact hne rfl
   ·exact h.2.2 b hb b (List.mem_flatMap.2 ⟨y,hy2,hb'⟩) rfl
  ·rcases List.mem_cons.1 hy with rfl|hy2
   ·exact h.2.2 b hb' b (List.mem_flatMap.2 ⟨x,hx2,hb⟩) rfl
   ·exact qgZ h.2.1 x hx2 y hy2 hne b hb hb'
theorem qa8{f:Nat->List Nat}:∀{l:List Nat},l.Nodup->(∀x∈l,(f x).Nodup)->(∀x∈l,∀y∈l,x≠y->∀b∈f x,b∉f y)->(l.flatMap f).Nodup
 |[],_,_,_=>by simp
 |z::l,h,h1,h2=>by
  simp only[List.nodup_cons]at h
  simp only[List.flatMap_cons,List.nodup_append]
  refine⟨h1 z (by simp),qa8 h.2 (λx hx=>h1 x (by simp[hx])) (λx hx y hy=>h2 x (by simp[hx]) y (by simp[hy])),?_⟩
  rintro b hb _ hb' rfl
  obtain⟨y,hy,hb'⟩:=List.mem_flatMap.1 hb'
  exact h2 z (by simp) y (by simp[hy]) (by rintro rfl;exact h.1 hy) b hb hb'
theorem qgv(hcfg:qu P cfg)(hC:qz C cfg){s0:St}{H0 H2 Hf:FH}{w':World}(hs:qg P C s0 a w H0 Φ)(hd:qF cfg.nt dst=true)(hle:H0.le H2)(hok2:HOk H2 w'){p:jE}(hrs:p.rs.length<1000)
  {l:List AV} {vs us:List Value} {d:PDens p.ps} {y:RDens p.rs×MDens p.ps} {Φs Φs' Ψs:List qB} {G:List Nat} (hG:∀b∈G,(C.M0 b\/C.w0.heap.size<=b)/\∀j o,s0.obj j=some o->b∉(Φ j).fp) (hm:jM (· ∈qd Φs++G) w w') (hnew2:∀b c,H2 b=some c->H0 b=some c\/b∈qd Φs++G\/w.heap.size<=b)
  (hmr:qd5 s0.obj Φ p.ps l Φs) (hargs:jP P w Hf p.ps d vs Φs) (hmu:jK P w' H2 p.ps y.2 vs Φs') (hres:qal P w' H2 p.rs y.1 us Ψs) (hnd:(qd (Ψs++Φs')).Nodup)
  (hall:∀b∈qd (Ψs++Φs'),H2 b=none/\(b∈qd Φs++G\/w.heap.size<=b)/\b<w'.heap.size) (hms:(qE p.ps l).Nodup):
  ∃Φ',qg P C (jI (qx (s0.killIf AV.isUpd) p.ps l y.2) (1000*(dst.getD 0+1)) p.rs y.1).1 a w' H2 Φ'/\qh P C w' H2 Φ' (jI (qx (s0.killIf AV.isUpd) p.ps l y.2) (1000*(dst.getD 0+1)) p.rs y.1).1.obj (jI (qx (s0.killIf AV.isUpd) p.ps l y.2) (1000*(dst.getD 0+1)) p.rs y.1).2 (.tuple us.toArray)/\(jI (qx (s0.killIf AV.isUpd) p.ps l y.2) (1000*(dst.getD 0+1)) p.rs y.1).2.isTup=true/\
   ∀j,10000000<=j->(Φ' j).b=(Φ j).b/\(jI (qx (s0.killIf AV.isUpd) p.ps l y.2) (1000*(dst.getD 0+1)) p.rs y.1).1.obj j=(qx (s0.killIf AV.isUpd) p.ps l y.2).obj j:=by
 obtain⟨ML,h1,h2,h3,h4,h5⟩:=qbJ hmr hargs hmu
 obtain⟨F,g1,g2,g3⟩:=h5 (s0.killIf AV.isUpd)
 rw[<-h1]at hms
 have g3:=g3 hms
 have hfpsapp:qd (Ψs++Φs')=qd Ψs++qd Φs':=by simp[qd]
 rw[hfpsapp]at hnd hall
 simp only[List.nodup_append]at hnd
 obtain⟨hnd1,hnd2,hnd3⟩:=hnd
 have hmay:∀b∈qd Φs++G,C.M0 b\/C.w0.heap.size<=b:=by
  intro b hb
  rcases List.mem_append.1 hb with hb|hb
  case inr=>exact(hG b hb).1
  rw[h3]at hb
  obtain⟨x,hx,hb⟩:=List.mem_flatMap.1 hb
  obtain⟨o,ho,_⟩:=h4 x hx
  exact((hs.os _ o ho).2 b hb).2.1
 have hother:∀j o',lk ML j=none->s0.obj j=some o'->∀b∈(Φ j).fp,b∉qd Φs++G/\b<w.heap.size/\H0 b=none:=by
  intro j o' hj hoj b hb
  refine⟨λhb'=>?_,((hs.os j o' hoj).2 b hb).2.2,((hs.os j o' hoj).2 b hb).1⟩
  rcases List.mem_append.1 hb' with hb'|hb'
  case inr=>exact(hG b hb').2 j o' hoj hb
  rw[h3]at hb'
  obtain⟨x,hx,hb'⟩:=List.mem_flatMap.1 hb'
  obtain⟨o,ho,_⟩:=h4 x hx
  exact hs.disj x.1 j o o' (lk_not hj x hx) ho hoj b hb' hb
 have hapart:∀b,(b∈qd Φs++G\/w.heap.size<=b)->∀j o',lk ML j=none->s0.obj j=some o'->b∉(Φ j).fp:=by
  intro b hb j o' hj hoj hbj
  obtain⟨k1,k2,_⟩:=hother j o' hj hoj b hbj
  rcases hb with hb|hb
  ·exact k1 hb
  ·omega
 have hmay2:∀b,(b∈qd Φs++G\/w.heap.size<=b)->C.M0 b\/C.w0.heap.size<=b:=by
  rintro b (hb|hb)
  ·exact hmay b hb
  ·exact .inr (Nat.le_trans hs.mod.size hb)
 have hinΦ':∀id x,lk ML id=some x->∀b∈x.2,b∈qd Φs':=by
  intro id x hx b hb
  rw[h2]
  exact List.mem_flatMap.2 ⟨(id,x),qbC hx,hb⟩
 have hsim:qg P C (qx (s0.killIf AV.isUpd) p.ps l y.2) a w' H2 (qeP (lk ML) Φ):=by
  refine hs.changes (ch:=lk ML) (F:=λav=>AV.isUpd av||F av) ?_ g3 ?_ ?_ ?_ hle hok2 ?_ (hs.mod.trans_new hm hmay) hm.size ?_ ?_ ?_
  ·intro id x hx
   exact h4 (id,x) (qbC hx)
  ·intro t
   rw[g1,St.get_killIf]
   cases s0.get t with
   |none=>rfl
   |some av=>simp[j4]
  ·intro id x hx av hst
   simp[g2 (id,x) (qbC hx) av hst]
  ·intro av hu;simp[hu]
  ·intro b c hb
   rcases hnew2 b c hb with hb|hb|hb
   ·exact hs.hnew b c hb
   ·exact .inr (hmay b hb)
   ·exact .inr (.inr (Nat.le_trans hs.mod.size hb))
  ·intro j o' hj hoj b hb
   obtain⟨k1,k2,k3⟩:=hother j o' hj hoj b hb
   refine⟨hm.block b k2 k1,?_⟩
   cases hq:H2 b with
   |none=>rfl
   |some c=>
    rcases hnew2 b c hq with h|h|h
    ·rw[k3]at h;cases h
    ·exact absurd h k1
    ·omega
  ·intro id x hx b hb
   obtain⟨k1,k2,k3⟩:=hall b (List.mem_append.2 (.inr (hinΦ' id x hx b hb)))
   exact⟨k1,hmay2 b k2,k3,hapart b k2⟩
  ·intro i j x y' hij hx hy b hb
   rw[h2]at hnd2
   exact qgZ hnd2 (i,x) (qbC hx) (j,y') (qbC hy) (by intro e;cases e;exact hij rfl) b hb
 have hdn:dst.getD 0<2000:=by
  cases dst with
  |none=>decide
  |some d'=>exact Nat.lt_of_lt_of_le (Eq.mp Nat.blt_eq hd:d'<cfg.nt) hcfg.small
 obtain⟨Φ',k1,k2,k3,k4⟩:=qgJ p.rs (n:=1000*(dst.getD 0+1)) hsim hres (λi hi=>hC.pin i hi) (by omega) (by
  intro b hb
  obtain⟨q1,q2,q3⟩:=hall b (List.mem_append.2 (.inl hb))
  refine⟨q1,hmay2 b q2,q3,λj o hj=>?_⟩
  rw[g3]at hj
  unfold qeP
  cases hc:lk ML j with
  |some x=>
   simp only
   exact λhb'=>hnd3 b hb b (hinΦ' j x hc b hb') rfl
  |none=>
   rw[hc]at hj
   exact hapart b q2 j o hc hj) hnd1
 refine⟨Φ',k1,k2,k3,λj hj=>?_⟩
 obtain⟨q1,q2⟩:=k4 j (λi h1 h2=>⟨by omega,by have:=@qgC true i (by omega);omega,by have:=@qgC false i (by omega);omega⟩)
 refine⟨?_,q1⟩
 rw[q2]
 unfold qeP
 cases lk ML j<;>rfl
theorem qgw(hcfg:qu P cfg)(hC:qz C cfg){s0:St}{H0 H2 Hf:FH}{w':World}(hs:qg P C s0 a w H0 Φ)(hd:qF cfg.nt dst=true)(hle:H0.le H2)(hok2:HOk H2 w'){p:jE}(hrs:p.rs.length<1000)
  {l:List AV} {vs us:List Value} {d:PDens p.ps} {y:RDens p.rs×MDens p.ps} {Φs Φs' Ψs:List qB} {G:List Nat} (hG:∀b∈G,(C.M0 b\/C.w0.heap.size<=b)/\∀j o,s0.obj j=some o->b∉(Φ j).fp) (hm:jM (· ∈qd Φs++G) w w') (hnew2:∀b c,H2 b=some c->H0 b=some c\/b∈qd Φs++G\/w.heap.size<=b)
  (hmr:qd5 s0.obj Φ p.ps l Φs) (hargs:jP P w Hf p.ps d vs Φs) (hmu:jK P w' H2 p.ps y.2 vs Φs') (hres:qal P w' H2 p.rs y.1 us Ψs) (hnd:(qd (Ψs++Φs')).Nodup)
  (hall:∀b∈qd (Ψs++Φs'),H2 b=none/\(b∈qd Φs++G\/w.heap.size<=b)/\b<w'.heap.size) (hms:(qE p.ps l).Nodup):
  ∃Φ',qg P C (jI (qx (s0.killIf AV.isUpd) p.ps l y.2) (1000*(dst.getD 0+1)) p.rs y.1).1 a w' H2 Φ'/\qh P C w' H2 Φ' (jI (qx (s0.killIf AV.isUpd) p.ps l y.2) (1000*(dst.getD 0+1)) p.rs y.1).1.obj (jI (qx (s0.killIf AV.isUpd) p.ps l y.2) (1000*(dst.getD 0+1)) p.rs y.1).2 (.tuple us.toArray)/\(jI (qx (s0.killIf AV.isUpd) p.ps l y.2) (1000*(dst.getD 0+1)) p.rs y.1).2.isTup=true:=by
 obtain⟨Φ',k1,k2,k3,_⟩:=qgv hcfg hC hs hd hle hok2 hrs hG hm hnew2 hmr hargs hmu hres hnd hall hms
 exact⟨Φ',k1,k2,k3⟩
theorem qhv(hcfg:qu P cfg)(hC:qz C cfg){s0:St}{H0 H2 Hf:FH}{w':World}(hs:qg P C s0 a w H0 Φ)(hd:qF cfg.nt dst=true)(hle:H0.le H2)(hok2:HOk H2 w'){p:jE}(hrs:p.rs.length<1000)
  {l:List AV} {vs us:List Value} {d:PDens p.ps} {y:RDens p.rs×MDens p.ps} {Φs Φs' Ψs:List qB} {G:List Nat} (hG:∀b∈G,(C.M0 b\/C.w0.heap.size<=b)/\∀j o,s0.obj j=some o->b∉(Φ j).fp) (hm:jM (· ∈qd Φs++G) w w') (hnew2:∀b c,H2 b=some c->H0 b=some c\/b∈qd Φs++G\/w.heap.size<=b)
  (hmr:qd5 s0.obj Φ p.ps l Φs) (hargs:jP P w Hf p.ps d vs Φs) (hmu:jK P w' H2 p.ps y.2 vs Φs') (hres:qal P w' H2 p.rs y.1 us Ψs) (hnd:(qd (Ψs++Φs')).Nodup)
  (hall:∀b∈qd (Ψs++Φs'),H2 b=none/\(b∈qd Φs++G\/w.heap.size<=b)/\b<w'.heap.size) (hms:(qE p.ps l).Nodup):
  Sim P C ((jI (qx (s0.killIf AV.isUpd) p.ps l y.2) (1000*(dst.getD 0+1)) p.rs y.1).1.setDst dst (jI (qx (s0.killIf AV.isUpd) p.ps l y.2) (1000*(dst.getD 0+1)) p.rs y.1).2.lone) (a.put dst (qap us)) w':=by
 obtain⟨Φ',k1,k2,k3⟩:=qgw hcfg hC hs hd hle hok2 hrs hG hm hnew2 hmr hargs hmu hres hnd hall hms
 exact⟨H2,Φ',k1.setDst (by rw[hC.nt];exact hd) (qkx k3 k2)⟩
theorem ql4(hcfg:qu P cfg)(hC:qz C cfg){s0:St}{H0 H2 Hf:FH}{w':World}(hs:qg P C s0 a w H0 Φ)(hd:qF cfg.nt dst=true)(hle:H0.le H2)(hok2:HOk H2 w'){p:jE}(hrs:p.rs.length<1000)
  {l:List AV} {vs us:List Value} {d:PDens p.ps} {y:RDens p.rs×MDens p.ps} {Φs Φs' Ψs:List qB} (hm:jM (· ∈qd Φs) w w') (hnew2:∀b c,H2 b=some c->H0 b=some c\/b∈qd Φs\/w.heap.size<=b)
  (hmr:qd5 s0.obj Φ p.ps l Φs) (hargs:jP P w Hf p.ps d vs Φs) (hmu:jK P w' H2 p.ps y.2 vs Φs') (hres:qal P w' H2 p.rs y.1 us Ψs) (hnd:(qd (Ψs++Φs')).Nodup)
  (hall:∀b∈qd (Ψs++Φs'),H2 b=none/\(b∈qd Φs\/w.heap.size<=b)/\b<w'.heap.size) (hms:(qE p.ps l).Nodup):
  ∃Φ',qg P C (jI (qx (s0.killIf AV.isUpd) p.ps l y.2) (1000*(dst.getD 0+1)) p.rs y.1).1 a w' H2 Φ'/\qh P C w' H2 Φ' (jI (qx (s0.killIf AV.isUpd) p.ps l y.2) (1000*(dst.getD 0+1)) p.rs y.1).1.obj (jI (qx (s0.killIf AV.isUpd) p.ps l y.2) (1000*(dst.getD 0+1)) p.rs y.1).2 (.tuple us.toArray)/\(jI (qx (s0.killIf AV.isUpd) p.ps l y.2) (1000*(dst.getD 0+1)) p.rs y.1).2.isTup=true:=
 qgw hcfg hC hs hd hle hok2 hrs (G:=[]) (by simp) (by simpa using hm) (by simpa using hnew2) hmr hargs hmu hres hnd (by simpa using hall) hms
theorem qep(hcfg:qu P cfg)(hC:qz C cfg){s0:St}{H0 H2 Hf:FH}{w':World}(hs:qg P C s0 a w H0 Φ)(hd:qF cfg.nt dst=true)(hle:H0.le H2)(hok2:HOk H2 w'){p:jE}(hrs:p.rs.length<1000)
  {l:List AV} {vs us:List Value} {d:PDens p.ps} {y:RDens p.rs×MDens p.ps} {Φs Φs' Ψs:List qB} (hm:jM (· ∈qd Φs) w w') (hnew2:∀b c,H2 b=some c->H0 b=some c\/b∈qd Φs\/w.heap.size<=b)
  (hmr:qd5 s0.obj Φ p.ps l Φs) (hargs:jP P w Hf p.ps d vs Φs) (hmu:jK P w' H2 p.ps y.2 vs Φs') (hres:qal P w' H2 p.rs y.1 us Ψs) (hnd:(qd (Ψs++Φs')).Nodup)
  (hall:∀b∈qd (Ψs++Φs'),H2 b=none/\(b∈qd Φs\/w.heap.size<=b)/\b<w'.heap.size) (hms:(qE p.ps l).Nodup):
  Sim P C ((jI (qx (s0.killIf AV.isUpd) p.ps l y.2) (1000*(dst.getD 0+1)) p.rs y.1).1.setDst dst (jI (qx (s0.killIf AV.isUpd) p.ps l y.2) (1000*(dst.getD 0+1)) p.rs y.1).2.lone) (a.put dst (qap us)) w':=
 qhv hcfg hC hs hd hle hok2 hrs (G:=[]) (by simp) (by simpa using hm) (by simpa using hnew2) hmr hargs hmu hres hnd (by simpa using hall) hms
theorem qbg{os:Nat->Option Obj}:∀{ps:List jT} {l:List AV} {Φs:List qB},qd5 os Φ ps l Φs->qd Φs=(qE ps l).flatMap (λid=>(Φ id).fp)/\∀id∈qE ps l,∃o,os id=some o
 |[],l,Φs,h=>by obtain⟨rfl,rfl⟩:=h;exact⟨rfl,by simp[qE]⟩
 |.v τ::ps,l,Φs,h=>by
  obtain⟨av,l',φ,Φs1,rfl,rfl,hφ,hm⟩:=h
  obtain⟨h1,h2⟩:=qbg hm
  exact⟨by simpa[qd,hφ,qE]using h1,by simpa[qE]using h2⟩
 |.r τ::ps,l,Φs,h=>by
  obtain⟨av,l',φ,Φs1,rfl,rfl,hφ,hm⟩:=h
  obtain⟨h1,h2⟩:=qbg hm
  exact⟨by simpa[qd,hφ,qE]using h1,by simpa[qE]using h2⟩
 |.c _::ps,l,Φs,h=>by
  obtain⟨av,l',φ,Φs1,rfl,rfl,hφ,hm⟩:=h
  obtain⟨h1,h2⟩:=qbg hm
  exact⟨by simpa[qd,hφ,qE]using h1,by simpa[qE]using h2⟩
 |.m τ::ps,l,Φs,h=>by
  obtain⟨id,l',Φs1,x,rfl,rfl,ho,hm⟩:=h
  obtain⟨h1,h2⟩:=qbg hm
  exact⟨by simpa[qd,qE,AV.name]using h1,by simpa[qE,AV.name,ho]using h2⟩
 |.gm τ::ps,l,Φs,h=>by
  obtain⟨id,l',Φs1,x,rfl,rfl,ho,hm⟩:=h
  obtain⟨h1,h2⟩:=qbg hm
  exact⟨by simpa[qd,qE,AV.name]using h1,by simpa[qE,AV.name,ho]using h2⟩
 |.mr tid e::ps,l,Φs,h=>by
  obtain⟨id,l',Φs1,x,rfl,rfl,ho,hm⟩:=h
  obtain⟨h1,h2⟩:=qbg hm
  exact⟨by simpa[qd,qE,AV.name]using h1,by simpa[qE,AV.name,ho]using h2⟩
 |.t tid e::ps,l,Φs,h=>by
  obtain⟨id,l',Φs1,x,rfl,rfl,ho,hm⟩:=h
  obtain⟨h1,h2⟩:=qbg hm
  exact⟨by simpa[qd,qE,AV.name]using h1,by simpa[qE,AV.name,ho]using h2⟩
 |.cm f τ::ps,l,Φs,h=>by
  obtain⟨id,l',Φs1,x,rfl,rfl,ho,hm⟩:=h
  obtain⟨h1,h2⟩:=qbg hm
  exact⟨by simpa[qd,qE,AV.capName,AV.name]using h1,by simpa[qE,AV.capName,AV.name,ho]using h2⟩
theorem qaz{os os':Nat->Option Obj}:∀{ps:List jT} {l:List AV} {Φs:List qB},(∀id∈qE ps l,os' id=os id)->qd5 os Φ ps l Φs->qd5 os' Φ ps l Φs
 |[],l,Φs,_,h=>h
 |.v τ::ps,l,Φs,hh,h=>by
  obtain⟨av,l',φ,Φs1,rfl,rfl,hφ,hm⟩:=h
  exact⟨av,l',φ,Φs1,rfl,rfl,hφ,qaz (by simpa[qE]using hh) hm⟩
 |.r τ::ps,l,Φs,hh,h=>by
  obtain⟨av,l',φ,Φs1,rfl,rfl,hφ,hm⟩:=h
  exact⟨av,l',φ,Φs1,rfl,rfl,hφ,qaz (by simpa[qE]using hh) hm⟩
 |.c _::ps,l,Φs,hh,h=>by
  obtain⟨av,l',φ,Φs1,rfl,rfl,hφ,hm⟩:=h
  exact⟨av,l',φ,Φs1,rfl,rfl,hφ,qaz (by simpa[qE]using hh) hm⟩
 |.m τ::ps,l,Φs,hh,h=>by
  obtain⟨id,l',Φs1,x,rfl,rfl,ho,hm⟩:=h
  exact⟨id,l',Φs1,x,rfl,rfl,by rw[hh id (by simp[qE,AV.name])];exact ho,qaz (λj hj=>hh j (by simp[qE,hj])) hm⟩
 |.gm τ::ps,l,Φs,hh,h=>by
  obtain⟨id,l',Φs1,x,rfl,rfl,ho,hm⟩:=h
  exact⟨id,l',Φs1,x,rfl,rfl,by rw[hh id (by simp[qE,AV.name])];exact ho,qaz (λj hj=>hh j (by simp[qE,hj])) hm⟩
 |.mr tid e::ps,l,Φs,hh,h=>by
  obtain⟨id,l',Φs1,x,rfl,rfl,ho,hm⟩:=h
  exact⟨id,l',Φs1,x,rfl,rfl,by rw[hh id (by simp[qE,AV.name])];exact ho,qaz (λj hj=>hh j (by simp[qE,hj])) hm⟩
 |.t tid e::ps,l,Φs,hh,h=>by
  obtain⟨id,l',Φs1,x,rfl,rfl,ho,hm⟩:=h
  exact⟨id,l',Φs1,x,rfl,rfl,by rw[hh id (by simp[qE,AV.name])];exact ho,qaz (λj hj=>hh j (by simp[qE,hj])) hm⟩
 |.cm f τ::ps,l,Φs,hh,h=>by
  obtain⟨id,l',Φs1,x,rfl,rfl,ho,hm⟩:=h
  exact⟨id,l',Φs1,x,rfl,rfl,by rw[hh id (by simp[qE,AV.capName,AV.name])];exact ho,qaz (λj hj=>hh j (by simp[qE,hj])) hm⟩
theorem qK.closed{w:World}{H H':FH}{o:Obj}{φ:qB}(hc:o.τ.isClosed=true)(h:qK P w H o φ):qK P w H' o φ:=by
 obtain⟨h1,h2,h3⟩:=h
 refine⟨h1,h2,?_⟩
 cases hr:o.row with
 |false=>
  rw[hr]at h3
  obtain⟨blk,t,fp',h4,h5,h6⟩:=h3
  exact⟨blk,t,fp',h4,qm.closed _ hc h5,h6⟩
 |true=>
  rw[hr]at h3
  obtain⟨k1,cs,k2,k3⟩:=h3
  exact⟨k1,cs,k2,qm.closed _ hc k3⟩
theorem jK.closed{w:World}{H H':FH}:∀{ps:List jT} {md:MDens ps} {vs:List Value} {Φs:List qB},ps.all jT.closed=true->jK P w H ps md vs Φs->jK P w H' ps md vs Φs
 |[],_,_,_,_,h=>h
 |.v τ::ps,md,vs,Φs,hc,h=>by
  obtain⟨v,vs',φ,Φs',e1,e2,e3,h⟩:=h
  exact⟨v,vs',φ,Φs',e1,e2,e3,jK.closed (by simpa[jT.closed]using hc) h⟩
 |.r τ::ps,md,vs,Φs,hc,h=>by
  obtain⟨v,vs',φ,Φs',e1,e2,e3,h⟩:=h
  exact⟨v,vs',φ,Φs',e1,e2,e3,jK.closed (by simpa[jT.closed]using hc) h⟩
 |.c _::ps,md,vs,Φs,hc,h=>by
  obtain⟨v,vs',φ,Φs',e1,e2,e3,h⟩:=h
  exact⟨v,vs',φ,Φs',e1,e2,e3,jK.closed (by simpa[jT.closed]using hc) h⟩
 |.m τ::ps,md,vs,Φs,hc,h=>by
  simp only[List.all_cons,Bool.and_eq_true]at hc
  obtain⟨v,vs',φ,Φs',e1,e2,e3,e4,h⟩:=h
  exact⟨v,vs',φ,Φs',e1,e2,e3,qK.closed hc.1 e4,jK.closed hc.2 h⟩
 |.mr tid e::ps,md,vs,Φs,hc,h=>by
  simp only[List.all_cons,Bool.and_eq_true]at hc
  obtain⟨v,vs',φ,Φs',e1,e2,e3,e4,h⟩:=h
  exact⟨v,vs',φ,Φs',e1,e2,e3,qK.closed (by simpa[Ty.isClosed]using Ty.flat_closed e hc.1) e4,jK.closed hc.2 h⟩
 |.t _ _::ps,md,vs,Φs,hc,h=>by
  simp only[List.all_cons,Bool.and_eq_true]at hc
  obtain⟨v,vs',φ,Φs',e1,e2,e3,h⟩:=h
  exact⟨v,vs',φ,Φs',e1,e2,e3,jK.closed hc.2 h⟩
 |.gm _::ps,md,vs,Φs,hc,h=>by
  simp only[List.all_cons,Bool.and_eq_true]at hc
  obtain⟨v,vs',φ,Φs',e1,e2,e3,h⟩:=h
  exact⟨v,vs',φ,Φs',e1,e2,e3,jK.closed hc.2 h⟩
 |.cm f τ::ps,md,vs,Φs,hc,h=>by
  simp only[List.all_cons,Bool.and_eq_true]at hc
  obtain⟨v,vs',φ,Φs',e1,e2,e3,e4,h⟩:=h
  exact⟨v,vs',φ,Φs',e1,e2,e3,qK.closed hc.1 e4,jK.closed hc.2 h⟩
theorem qal.closed{w:World}{H H':FH}:∀{rs:List RTy} {d:RDens rs} {vs:List Value} {Φs:List qB},rs.all RTy.closed=true->qal P w H rs d vs Φs->qal P w H' rs d vs Φs
 |[],_,_,_,_,h=>h
 |.v τ::rs,d,vs,Φs,hc,h=>by
  simp only[List.all_cons,Bool.and_eq_true]at hc
  obtain⟨v,vs',φ,Φs',e1,e2,e3,e4,⟨cs,e5,e6⟩,h⟩:=h
  exact⟨v,vs',φ,Φs',e1,e2,e3,e4,⟨cs,e5,qm.closed τ (Ty.flat_closed τ hc.1) e6⟩,qal.closed hc.2 h⟩
 |.own tid e::rs,d,vs,Φs,hc,h=>by
  simp only[List.all_cons,Bool.and_eq_true]at hc
  obtain⟨v,vs',φ,Φs',e1,e2,e3,e4,h⟩:=h
  exact⟨v,vs',φ,Φs',e1,e2,e3,qK.closed (by simpa[Ty.isClosed]using Ty.flat_closed e hc.1) e4,qal.closed hc.2 h⟩
 |.sure _ tid e::rs,d,vs,Φs,hc,h=>by
  simp only[List.all_cons,Bool.and_eq_true]at hc
  obtain⟨v,vs',φ,Φs',e1,e2,e3,e4,e5,h⟩:=h
  exact⟨v,vs',φ,Φs',e1,e2,e3,qK.closed (by simpa[Ty.isClosed]using Ty.flat_closed e hc.1) e4,e5,qal.closed hc.2 h⟩
 |.ownv _::rs,d,vs,Φs,hc,h=>by
  simp only[List.all_cons,Bool.and_eq_true]at hc
  obtain⟨v,vs',φ,Φs',e1,e2,e3,e4,h⟩:=h
  exact⟨v,vs',φ,Φs',e1,e2,e3,qK.closed hc.1 e4,qal.closed hc.2 h⟩
 |.optr τ::rs,d,vs,Φs,hc,h=>by
  simp only[List.all_cons,Bool.and_eq_true]at hc
  obtain⟨v,vs',φ,Φs',e1,e2,e3,e4,h⟩:=h
  exact⟨v,vs',φ,Φs',e1,e2,e3,qK.closed hc.1 e4,qal.closed hc.2 h⟩
theorem qoj(hcfg:qu P cfg)(hC:qz C cfg){f:Nat}{m:qeV}(hp:lk cfg.makers f=some m){l:List AV}{vs:List Value}(hs:qg P C s a w H Φ)(hd:qF cfg.nt dst=true)(hrel:qaa (qh P C w H Φ s.obj) l vs)
  (h:qm7 cfg s dst m l k=some r):∃s',k s'=some r/\Calls P f vs.toArray w λe w''=>∃v,e = .returned v/\Sim P C s' (a.put dst v) w'':=by
 obtain⟨_,hsound⟩:=hcfg.makers f m hp
 unfold qm7 at h
 cases hq:apart (qE m.p.ps l) (qt m.p.ps l)&&Nat.blt m.p.rs.length 1000 with
 |false=>rw[hq]at h;cases h
 |true=>
 rw[hq,cond_true]at h
 rw[Bool.and_eq_true]at hq
 obtain⟨hap,hrs⟩:=hq
 have hrs:m.p.rs.length<1000:=Eq.mp Nat.blt_eq hrs
 obtain⟨hms,hmt⟩:=qcg hap
 obtain⟨Hf,m1,m2,m3,m4,m5⟩:=qg.freezeAll (qt m.p.ps l) hs
 obtain⟨d,h,Φs,hargs,hmr⟩:=qa2 hcfg hs m1 m3 hrel h
 rw[qi]at h
 replace h:=Option.bind_eq_some_iff.1 h
 obtain⟨y,hy,h⟩:=h
 obtain⟨hfps,hmo⟩:=qbg hmr
 have hnd:(qd Φs).Nodup:=by
  rw[hfps]
  refine qa8 hms (λid hid=>?_) (λi hi j hj hij b hb=>?_)
  ·obtain⟨o,ho⟩:=hmo id hid
   exact(hs.os id o ho).1.2.1
  ·obtain⟨o,ho⟩:=hmo i hi
   obtain⟨o',ho'⟩:=hmo j hj
   exact hs.disj i j o o' hij ho ho' b hb
 have hnone:∀b∈qd Φs,Hf b=none/\b<w.heap.size:=by
  intro b hb
  rw[hfps]at hb
  obtain⟨id,hid,hb⟩:=List.mem_flatMap.1 hb
  obtain⟨o,ho⟩:=hmo id hid
  obtain⟨q1,q2,q3⟩:=(hs.os id o ho).2 b hb
  refine⟨?_,q3⟩
  cases hq:Hf b with
  |none=>rfl
  |some c=>
   rcases m2 b c hq with h1|⟨id2,hid2,o2,ho2,hb2⟩
   ·rw[q1]at h1;cases h1
   ·exact absurd hb2 (hs.disj id id2 o o2 (by rintro rfl;exact hmt id hid hid2) ho ho2 b hb)
 have hc:=hsound d y hy w Hf vs Φs m4.hok hargs hnd hnone
 refine⟨_,h,hc.mono ?_⟩
 rintro e w'' ⟨us,H',Φs',Ψs,he,hm,hle,hok',hnew,hres,hmu,hnd2,hall⟩
 refine⟨_,he,?_⟩
 obtain⟨Φ',k1,k2,_⟩:=ql4 hcfg hC m4 hd hle hok' hrs hm hnew (qaz (λid hid=>by rw[m5,if_neg (hmt id hid)]) hmr) hargs hmu hres hnd2 hall hms
 exact⟨H',Φ',k1.setDst (by rw[hC.nt];exact hd) ⟨#[],us.toArray,rfl,rfl,k2⟩⟩
theorem qjZ(hcfg:qu P cfg)(hC:qz C cfg){p:jE}{X:(Ending->World->Prop)->Prop}(hX:∀{Q Q':Ending->World->Prop},X Q->(∀e w,Q e w->Q' e w)->X Q'){l:List AV}{vs:List Value}(hs:qg P C s a w H Φ)(hd:qF cfg.nt dst=true)(hrel:qaa (qh P C w H Φ s.obj) l vs)
  (hsound:∀(d:PDens p.ps) (y:RDens p.rs×MDens p.ps),p.g d=some y->∀(H2:FH) (Φs:List qB),H.le H2->HOk H2 w->jP P w H2 p.ps d vs Φs->(qd Φs).Nodup->(∀b∈qd Φs,H2 b=none/\b<w.heap.size)->
   X λe w'=>∃us H' Φs' Ψs,e = .returned (qap us)/\jM (· ∈qd Φs) w w'/\H2.le H'/\HOk H' w'/\(∀b c,H' b=some c->H2 b=some c\/b∈qd Φs\/w.heap.size<=b)/\
    qal P w' H' p.rs y.1 us Ψs/\jK P w' H' p.ps y.2 vs Φs'/\(qd (Ψs++Φs')).Nodup/\∀b∈qd (Ψs++Φs'),H' b=none/\(b∈qd Φs\/w.heap.size<=b)/\b<w'.heap.size)
  (h:qgt cfg s dst p l k=some r):∃s',k s'=some r/\X λe w''=>∃v,e = .returned v/\Sim P C s' (a.put dst v) w'':=by
 unfold qgt at h
 cases hq:apart (qE p.ps l) (qt p.ps l)&&Nat.blt p.rs.length 1000 with
 |false=>rw[hq]at h;cases h
 |true=>
 rw[hq,cond_true]at h
 rw[Bool.and_eq_true]at hq
 obtain⟨hap,hrs⟩:=hq
 have hrs:p.rs.length<1000:=Eq.mp Nat.blt_eq hrs
 obtain⟨hms,hmt⟩:=qcg hap
 obtain⟨Hf,m1,m2,m3,m4,m5⟩:=qg.freezeAll (qt p.ps l) hs
 obtain⟨d,h,Φs,hargs,hmr⟩:=qa2 hcfg hs m1 m3 hrel h
 rw[qi]at h
 replace h:=Option.bind_eq_some_iff.1 h
 obtain⟨y,hy,h⟩:=h
 obtain⟨hfps,hmo⟩:=qbg hmr
 have hnd:(qd Φs).Nodup:=by
  rw[hfps]
  refine qa8 hms (λid hid=>?_) (λi hi j hj hij b hb=>?_)
  ·obtain⟨o,ho⟩:=hmo id hid
   exact(hs.os id o ho).1.2.1
  ·obtain⟨o,ho⟩:=hmo i hi
   obtain⟨o',ho'⟩:=hmo j hj
   exact hs.disj i j o o' hij ho ho' b hb
 have hnone:∀b∈qd Φs,Hf b=none/\b<w.heap.size:=by
  intro b hb
  rw[hfps]at hb
  obtain⟨id,hid,hb⟩:=List.mem_flatMap.1 hb
  obtain⟨o,ho⟩:=hmo id hid
  obtain⟨q1,q2,q3⟩:=(hs.os id o ho).2 b hb
  refine⟨?_,q3⟩
  cases hq:Hf b with
  |none=>rfl
  |some c=>
   rcases m2 b c hq with h1|⟨id2,hid2,o2,ho2,hb2⟩
   ·rw[q1]at h1;cases h1
   ·exact absurd hb2 (hs.disj id id2 o o2 (by rintro rfl;exact hmt id hid hid2) ho ho2 b hb)
 have hc:=hsound d y hy Hf Φs m1 m4.hok hargs hnd hnone
 refine⟨_,h,hX hc ?_⟩
 rintro e w'' ⟨us,H',Φs',Ψs,he,hm,hle,hok',hnew,hres,hmu,hnd2,hall⟩
 refine⟨_,he,?_⟩
 cases hcl:p.rs.all RTy.closed&&p.ps.all jT.closed with
 |false=>
  rw[cond_false]
  exact qep hcfg hC m4 hd hle hok' hrs hm hnew (qaz (λid hid=>by rw[m5,if_neg (hmt id hid)]) hmr) hargs hmu hres hnd2 hall hms
 |true=>
  rw[cond_true]
  rw[Bool.and_eq_true]at hcl
  classical
  have htf:∀b,(∃id∈qt p.ps l,∃o,s.obj id=some o/\b∈(Φ id).fp)->H b=none:=by
   rintro b ⟨id,_,o,ho,hb⟩
   exact((hs.os id o ho).2 b hb).1
  let H2:FH:=λb=>if(∃id∈qt p.ps l,∃o,s.obj id=some o/\b∈(Φ id).fp)then none else H' b
  have hH2:∀b c,H2 b=some c->H' b=some c/\¬∃id∈qt p.ps l,∃o,s.obj id=some o/\b∈(Φ id).fp:=by
   intro b c hb
   simp only[H2]at hb
   split at hb
   ·cases hb
   ·exact⟨hb,‹_›⟩
  refine qep (H2:=H2) hcfg hC hs hd ?_ (λb c hb=>hok' b c (hH2 b c hb).1) hrs hm ?_ hmr hargs (jK.closed hcl.2 hmu) (qal.closed hcl.1 hres) hnd2 ?_ hms
  ·intro b c hb
   simp only[H2]
   rw[if_neg (λhh=>by rw[htf b hh]at hb;cases hb)]
   exact hle _ _ (m1 _ _ hb)
  ·intro b c hb
   obtain⟨q1,q2⟩:=hH2 b c hb
   rcases hnew b c q1 with q|q|q
   ·rcases m2 b c q with q|q
    ·exact .inl q
    ·exact absurd q q2
   ·exact .inr (.inl q)
   ·exact .inr (.inr q)
  ·intro b hb
   obtain⟨q1,q2,q3⟩:=hall b hb
   refine⟨?_,q2,q3⟩
   simp only[H2]
   split
   ·rfl
   ·exact q1
theorem callK_ok(hcfg:qu P cfg)(hC:qz C cfg){f:Nat}{p:jE}(hp:lk cfg.prims f=some p){l:List AV}{vs:List Value}(hs:qg P C s a w H Φ)(hd:qF cfg.nt dst=true)(hrel:qaa (qh P C w H Φ s.obj) l vs)
  (h:qgt cfg s dst p l k=some r):∃s',k s'=some r/\Calls P f vs.toArray w λe w''=>∃v,e = .returned v/\Sim P C s' (a.put dst v) w'':=
 qjZ hcfg hC (X:=λQ=>Calls P f vs.toArray w Q) (λh hm=>h.mono hm) hs hd hrel (λd y hy H2 Φs _ hok ha hn hf=>(hcfg.prims f p hp).2 d y hy w H2 vs Φs hok ha hn hf) h
theorem keepT_ok{s':St}{a':Act}{w':World}{H':FH}{Φ':Nat->qB}{id:Nat}{q:List qq}{τ:Ty}{x x':τ.den}(hs:qg P C s a w H Φ)(hs':qg P C s' a' w' H' Φ')(ho:s.obj id=some ⟨false,τ,x⟩)(ho':s'.obj id=some ⟨false,τ,x'⟩)
  (hb:(Φ' id).b=(Φ id).b) (hk:∀u,qfW w τ (Φ id).b q u->qfW w' τ (Φ id).b q u) (ha:∀t,qiK dst t=false->a'.tmps.getD t undef=a.tmps.getD t undef):∀ts,qg P C (qgf s s' id q dst ts) a' w' H' Φ'/\(qgf s s' id q dst ts).obj=s'.obj:=by
 have key:∀p v,qO p q=true->qh P C w H Φ s.obj (.view id p) v->qh P C w' H' Φ' s'.obj (.view id q) v:=by
  intro p v hp hr
  obtain rfl:=qbB hp
  obtain⟨o,y,h1,h2,h3⟩:=hr
  rw[ho]at h1
  cases h1
  simp only[Bool.false_and]at h3
  obtain⟨b,off,blk,t,h4,h5,h6⟩:=h3
  obtain⟨σ,b',off',blk',t',g1,g2,g3,g4⟩:=hk v ⟨y.1,b,off,blk,t,jD _ h2,h4,h5,h6⟩
  have hst:p.any qq.isI=false:=qcI hp
  obtain⟨y',hy'⟩:=qbm τ x' hst g1
  refine⟨_,⟨σ,y'⟩,ho',hy',?_⟩
  simp only[Bool.false_and]
  refine⟨b',off',blk',t',?_,g3,g4⟩
  unfold jS
  simp only
  rw[hb]
  exact g2
 intro ts
 induction ts with
 |nil=>exact⟨hs',rfl⟩
 |cons t ts ih=>
  obtain⟨i1,i2⟩:=ih
  simp only[qgf]
  split
  ·rename_i j p hg
   cases hc:Nat.beq j id&&(qO p q && !qiK dst t)with
   |false=>exact⟨i1,i2⟩
   |true=>
    simp only[Bool.and_eq_true,Bool.not_eq_true']at hc
    obtain rfl:=Nat.eq_of_beq_eq_true hc.1
    refine⟨i1.setAV ?_,i2⟩
    rw[i2,ha t hc.2.2]
    exact key p _ hc.2.1 (hs.ts t _ hg)
  ·rename_i n j p hg
   cases hc:Nat.beq j id&&(qO p q && !qiK dst t)with
   |false=>exact⟨i1,i2⟩
   |true=>
    simp only[Bool.and_eq_true,Bool.not_eq_true']at hc
    obtain rfl:=Nat.eq_of_beq_eq_true hc.1
    refine⟨i1.setAV ?_,i2⟩
    rw[i2]
    obtain⟨u,hu,hr⟩:=hs.ts t _ hg
    exact⟨u,hu,key p _ hc.2.1 hr⟩
  ·exact⟨i1,i2⟩
theorem qkC(hcfg:qu P cfg)(hC:qz C cfg){f:Nat}{kp:qdB}(hp:lk cfg.keeps f=some kp){l:List AV}{vs:List Value}(hs:qg P C s a w H Φ)(hd:qF cfg.nt dst=true)(hrel:qaa (qh P C w H Φ s.obj) l vs)
  (h:qgR s dst kp l k=some r):∃s',k s'=some r/\Calls P f vs.toArray w λe w''=>∃v,e = .returned v/\Sim P C s' (a.put dst v) w'':=by
 obtain⟨_,hsound⟩:=hcfg.keeps f kp hp
 unfold qgR at h
 split at h
 case h_2=>cases h
 rename_i id
 split at h
 case h_2=>cases h
 rename_i o ho
 cases hc: !o.row&&(Nat.ble 10000000 id&&Nat.blt kp.rs.length 1000)with
 |false=>rw[hc]at h;cases h
 |true=>
 rw[hc,cond_true]at h
 simp only[Bool.and_eq_true,Bool.not_eq_true']at hc
 obtain⟨hrow,hid,hrs⟩:=hc
 have hid:10000000<=id:=Nat.le_of_ble_eq_true hid
 have hrs:kp.rs.length<1000:=Eq.mp Nat.blt_eq hrs
 obtain⟨row,σ,x0⟩:=o
 simp only at hrow
 subst hrow
 rw[qi]at h
 replace h:=Option.bind_eq_some_iff.1 h
 obtain⟨x,hx,h⟩:=h
 obtain⟨e1,hx⟩:=qf hx
 simp only at e1
 subst e1
 subst hx
 rw[qi]at h
 replace h:=Option.bind_eq_some_iff.1 h
 obtain⟨y,hy,h⟩:=h
 match vs,hrel with
 |[v],hrel=>
  have hrel:=hrel.1
  have hok:=hs.os id _ ho
  obtain⟨o2,y2,b,off,q1,_,_,q4,q5⟩:=hrel
  rw[ho]at q1
  cases q1
  obtain⟨rfl,rfl⟩:=jO.det _ q4 (j6 w _ (Φ id).b 0)
  have hargs:jP P w H kp.prim.ps (_,()) [v] [Φ id]:=⟨v,[],Φ id,[],rfl,rfl,q5,hok.1,rfl,rfl⟩
  have hmr:qd5 s.obj Φ kp.prim.ps [.ptr id []] [Φ id]:=⟨id,[],[],_,rfl,rfl,ho,rfl,rfl⟩
  have hfe:qd [Φ id]=(Φ id).fp:=by simp[qd]
  have hcall:=hsound (_,()) y hy w H [v] [Φ id] hs.hok hargs (by rw[hfe];exact hok.1.2.1) (by rw[hfe];exact λb hb=>⟨(hok.2 b hb).1,(hok.2 b hb).2.2⟩)
  refine⟨_,h,hcall.mono ?_⟩
  rintro e w'' ⟨⟨us,H',Φs',Ψs,he,hm,hle,hok',hnew,hres,hmu,hnd2,hall⟩,hkeep⟩
  refine⟨_,he,?_⟩
  obtain⟨Φ',k1,k2,k3,k4⟩:=qgv (p:=kp.prim) (l:=[.ptr id []]) (G:=[]) hcfg hC hs hd hle hok' hrs (by simp) (by simpa using hm) (by simpa using hnew) hmr hargs hmu hres hnd2 (by simpa using hall) (by simp[qE,AV.name,qdB.prim])
  obtain⟨kb,ko⟩:=k4 id hid
  have hob:∀(s':St) (d:Option Nat) (av:AV),(s'.setDst d av).obj=s'.obj:=λs' d av=>by cases d<;>rfl
  refine⟨H',Φ',(keepT_ok (x':=y.2.1) hs (k1.setDst (by rw[hC.nt];exact hd) (qkx k3 k2)) ho ?_ kb (hkeep (Φ id) List.mem_cons_self) ?_ _).1⟩
  ·rw[hob,ko]
   show(((s.killIf AV.isUpd).killIf (AV.stale id false)).setObj id (some ⟨false,kp.τ,y.2.1⟩)).obj id=_
   rw[St.obj_setObj,if_pos rfl]
  ·intro t ht
   cases dst with
   |none=>rfl
   |some d=>
    have hdt:d<a.tmps.size:=by rw[hs.size,hC.nt];exact Eq.mp Nat.blt_eq hd
    rw[qeK hdt,if_neg (Nat.ne_of_beq_eq_false ht)]
 |[],hrel=>exact hrel.elim
 |_::_::_,hrel=>exact hrel.2.elim
theorem qok(hcfg:qu P cfg)(hC:qz C cfg){f:Nat}{p:jE}(hp:lk cfg.alts f=some p){l:List AV}{vs:List Value}(hs:qg P C s a w H Φ)(hd:qF cfg.nt dst=true)(hrel:qaa (qh P C w H Φ s.obj) l vs)
  {alt:Option R} (h:qm8 cfg s dst p l alt k=some r):(∃s',k s'=some r/\Calls P f vs.toArray w λe w''=>∃v,e = .returned v/\Sim P C s' (a.put dst v) w'')\/alt=some r:=by
 obtain⟨_,hsound⟩:=hcfg.alts f p hp
 unfold qm8 at h
 cases hq:apart (qE p.ps l) (qt p.ps l)&&Nat.blt p.rs.length 1000 with
 |false=>rw[hq]at h;cases h
 |true=>
 rw[hq,cond_true]at h
 rw[Bool.and_eq_true]at hq
 obtain⟨hap,hrs⟩:=hq
 have hrs:p.rs.length<1000:=Eq.mp Nat.blt_eq hrs
 obtain⟨hms,hmt⟩:=qcg hap
 obtain⟨Hf,m1,m2,m3,m4,m5⟩:=qg.freezeAll (qt p.ps l) hs
 obtain⟨d,h,Φs,hargs,hmr⟩:=qa2 hcfg hs m1 m3 hrel h
 unfold altK at h
 split at h
 case h_2=>exact .inr h
 rename_i y hy
 obtain⟨hfps,hmo⟩:=qbg hmr
 have hnd:(qd Φs).Nodup:=by
  rw[hfps]
  refine qa8 hms (λid hid=>?_) (λi hi j hj hij b hb=>?_)
  ·obtain⟨o,ho⟩:=hmo id hid
   exact(hs.os id o ho).1.2.1
  ·obtain⟨o,ho⟩:=hmo i hi
   obtain⟨o',ho'⟩:=hmo j hj
   exact hs.disj i j o o' hij ho ho' b hb
 have hnone:∀b∈qd Φs,Hf b=none/\b<w.heap.size:=by
  intro b hb
  rw[hfps]at hb
  obtain⟨id,hid,hb⟩:=List.mem_flatMap.1 hb
  obtain⟨o,ho⟩:=hmo id hid
  obtain⟨q1,q2,q3⟩:=(hs.os id o ho).2 b hb
  refine⟨?_,q3⟩
  cases hq:Hf b with
  |none=>rfl
  |some c=>
   rcases m2 b c hq with h1|⟨id2,hid2,o2,ho2,hb2⟩
   ·rw[q1]at h1;cases h1
   ·exact absurd hb2 (hs.disj id id2 o o2 (by rintro rfl;exact hmt id hid hid2) ho ho2 b hb)
 have hc:=hsound d y hy w Hf vs Φs m4.hok hargs hnd hnone
 refine .inl ⟨_,h,hc.mono ?_⟩
 rintro e w'' ⟨us,H',Φs',Ψs,he,hm,hle,hok',hnew,hres,hmu,hnd2,hall⟩
 refine⟨_,he,?_⟩
 cases hcl:p.rs.all RTy.closed&&p.ps.all jT.closed with
 |false=>
  rw[cond_false]
  exact qep hcfg hC m4 hd hle hok' hrs hm hnew (qaz (λid hid=>by rw[m5,if_neg (hmt id hid)]) hmr) hargs hmu hres hnd2 hall hms
 |true=>
  rw[cond_true]
  rw[Bool.and_eq_true]at hcl
  classical
  have htf:∀b,(∃id∈qt p.ps l,∃o,s.obj id=some o/\b∈(Φ id).fp)->H b=none:=by
   rintro b ⟨id,_,o,ho,hb⟩
   exact((hs.os id o ho).2 b hb).1
  let H2:FH:=λb=>if(∃id∈qt p.ps l,∃o,s.obj id=some o/\b∈(Φ id).fp)then none else H' b
  have hH2:∀b c,H2 b=some c->H' b=some c/\¬∃id∈qt p.ps l,∃o,s.obj id=some o/\b∈(Φ id).fp:=by
   intro b c hb
   simp only[H2]at hb
   split at hb
   ·cases hb
   ·exact⟨hb,‹_›⟩
  refine qep (H2:=H2) hcfg hC hs hd ?_ (λb c hb=>hok' b c (hH2 b c hb).1) hrs hm ?_ hmr hargs (jK.closed hcl.2 hmu) (qal.closed hcl.1 hres) hnd2 ?_ hms
  ·intro b c hb
   simp only[H2]
   rw[if_neg (λhh=>by rw[htf b hh]at hb;cases hb)]
   exact hle _ _ (m1 _ _ hb)
  ·intro b c hb
   obtain⟨q1,q2⟩:=hH2 b c hb
   rcases hnew b c q1 with q|q|q
   ·rcases m2 b c q with q|q
    ·exact .inl q
    ·exact absurd q q2
   ·exact .inr (.inl q)
   ·exact .inr (.inr q)
  ·intro b hb
   obtain⟨q1,q2,q3⟩:=hall b hb
   refine⟨?_,q2,q3⟩
   simp only[H2]
   split
   ·rfl
   ·exact q1
theorem qh.keep{os os':Nat->Option Obj}{osl:List (Nat×Bool×Ty)}(hos:∀id,(lk osl id).isSome=true->os' id=os id):
  ∀{a b:AV} {v:Value},a.same b=true->a.within osl=true->qh P C w H Φ os b v->qh P C w H Φ os' a v
 |.dead,_,_,_,_,_=>trivial
 |.ptr i p,b,v,hs,hw,h=>by
  cases b with
  |ptr j q=>
   simp only[AV.same,Bool.and_eq_true]at hs
   obtain rfl:=Nat.eq_of_beq_eq_true hs.1
   obtain rfl:=qbB hs.2
   obtain⟨o,y,b,off,h1,h2⟩:=h
   exact⟨o,y,b,off,by rw[hos i hw];exact h1,h2⟩
  |_=>cases hs
 |.view i p,b,v,hs,hw,h=>by
  cases b with
  |view j q=>
   simp only[AV.same,Bool.and_eq_true]at hs
   obtain rfl:=Nat.eq_of_beq_eq_true hs.1
   obtain rfl:=qbB hs.2
   obtain⟨o,y,h1,h2⟩:=h
   exact⟨o,y,by rw[hos i hw];exact h1,h2⟩
  |_=>cases hs
 |.fn f x y,b,v,hs,hw,h=>by
  cases b with
  |fn g x' y'=>
   simp only[AV.same,Bool.and_eq_true]at hs
   simp only[AV.within,Bool.and_eq_true]at hw
   obtain rfl:=Nat.eq_of_beq_eq_true hs.1.1
   obtain⟨vs,us,h1,h2,h3⟩:=h
   exact⟨vs,us,h1,qh.keep hos hs.1.2 hw.1 h2,qh.keep hos hs.2 hw.2 h3⟩
  |_=>cases hs
 |.nil,b,v,hs,_,h=>by
  cases b with
  |nil=>exact h
  |_=>cases hs
 |.gh n x,b,v,hs,hw,h=>by
  cases b with
  |gh m x'=>
   simp only[AV.same,Bool.and_eq_true]at hs
   simp only[AV.within]at hw
   obtain⟨u,h1,h2⟩:=h
   exact⟨u,by rw[Nat.eq_of_beq_eq_true hs.1];exact h1,qh.keep hos hs.2 hw h2⟩
  |_=>cases hs
 |.cons x y,b,v,hs,hw,h=>by
  cases b with
  |cons x' y'=>
   simp only[AV.same,Bool.and_eq_true]at hs
   simp only[AV.within,Bool.and_eq_true]at hw
   obtain⟨u,us,h1,h2,h3⟩:=h
   exact⟨u,us,h1,qh.keep hos hs.1 hw.1 h2,qh.keep hos hs.2 hw.2 h3⟩
  |_=>cases hs
 |.cv i f n,b,v,hs,_,h=>by
  cases b with
  |cv j g m=>
   simp only[AV.same,Bool.and_eq_true]at hs
   obtain rfl:=Nat.eq_of_beq_eq_true hs.1
   obtain rfl:=Nat.eq_of_beq_eq_true hs.2.1
   obtain rfl:=Nat.eq_of_beq_eq_true hs.2.2
   exact h
  |_=>cases hs
 |.val _ _,b,_,hs,_,_=>by cases b<;>cases hs
 |.ref _ _,b,_,hs,_,_=>by cases b<;>cases hs
 |.upd _ _ _ _ _,b,_,hs,_,_=>by cases b<;>cases hs
 |.cut _ _ _ _,b,_,hs,_,_=>by cases b<;>cases hs
theorem qbp{t:Nat}{x:Option AV}{b:AV}(h:qcR t x=some b):x=some (qev t b):=by
 unfold qcR at h
 unfold qev
 split at h
 ·rename_i n a
  cases hb:Nat.ble 20000000 t with
  |true=>
   rw[hb,cond_true]at h
   cases hn:Nat.beq n t with
   |true=>rw[hn]at h;cases h;rw[Nat.eq_of_beq_eq_true hn];rfl
   |false=>rw[hn]at h;cases h
  |false=>rw[hb]at h;cases h;rfl
 ·cases hb:Nat.ble 20000000 t with
  |true=>rw[hb]at h;cases h
  |false=>rw[hb]at h;exact h
theorem qbW{os os':Nat->Option Obj}{t:Nat}{a b:AV}(h:∀v,qh P C w H Φ os b v->qh P C w H Φ os' a v):∀v,qh P C w H Φ os (qev t b) v->qh P C w H Φ os' (qev t a) v:=by
 intro v hv
 unfold qev at hv ⊢
 cases hb:Nat.ble 20000000 t with
 |true=>
  rw[hb]at hv
  obtain⟨u,h1,h2⟩:=hv
  exact⟨u,h1,h u h2⟩
 |false=>rw[hb]at hv;exact h v hv
theorem isZ_eq{a:Int}(h:isZ a=true):a=0:=by
 cases a with
 |ofNat n=>rw[Nat.eq_of_beq_eq_true (n:=n) (m:=0) h];rfl
 |negSucc n=>cases h
theorem qf6:∀{p q:List qq},qin p q=true->p=q
 |[],[],_=>rfl
 |.L::p,.L::q,h=>by rw[qf6 (p:=p) (q:=q) h]
 |.R::p,.R::q,h=>by rw[qf6 (p:=p) (q:=q) h]
 |.I a::p,.I b::q,h=>by
  simp only[qin,Bool.and_eq_true]at h
  rw[isZ_eq h.1,isZ_eq h.2.1,qf6 h.2.2]
 |[],_::_,h=>by cases h
 |.L::_,[],h=>by cases h
 |.R::_,[],h=>by cases h
 |.I _::_,[],h=>by cases h
 |.L::_,.R::_,h=>by cases h
 |.L::_,.I _::_,h=>by cases h
 |.R::_,.L::_,h=>by cases h
 |.R::_,.I _::_,h=>by cases h
 |.I _::_,.L::_,h=>by cases h
 |.I _::_,.R::_,h=>by cases h
theorem qdU:∀{q1 q2 p:List qq} {n:Int},qhh q1 q2 p=some n->p=q1 ++ .I n::q2
 |[],q2,.I i::p,n,h=>by
  simp only[qhh]at h
  cases hz:qin q2 p with
  |false=>rw[hz]at h;cases h
  |true=>rw[hz]at h;cases h;rw[qf6 hz];rfl
 |.L::q1,q2,.L::p,n,h=>by rw[qdU (q1:=q1) (q2:=q2) (p:=p) h];rfl
 |.R::q1,q2,.R::p,n,h=>by rw[qdU (q1:=q1) (q2:=q2) (p:=p) h];rfl
 |[],_,[],_,h=>by cases h
 |[],_,.L::_,_,h=>by cases h
 |[],_,.R::_,_,h=>by cases h
 |.L::_,_,[],_,h=>by cases h
 |.L::_,_,.R::_,_,h=>by cases h
 |.L::_,_,.I _::_,_,h=>by cases h
 |.R::_,_,[],_,h=>by cases h
 |.R::_,_,.L::_,_,h=>by cases h
 |.R::_,_,.I _::_,_,h=>by cases h
 |.I _::_,_,[],_,h=>by cases h
 |.I _::_,_,.L::_,_,h=>by cases h
 |.I _::_,_,.R::_,_,h=>by cases h
 |.I _::_,_,.I _::_,_,h=>by cases h
theorem view_upd(hs:qg P C s a w H Φ){id:Nat}{p:List qq}{o:Obj}{tid:Nat}{e:Ty}{l:List e.den}{v:Value}(ho:s.obj id=some o)(hy:qP o.τ o.x p=some ⟨.list true tid e,l⟩)(hn:e.noFn=true)(hr:qh P C w H Φ s.obj (.view id p) v):qh P C w H Φ s.obj (.upd id p tid e l) v:=by
 obtain⟨cs,fp,hv,hrep,hsub,hnd⟩:=qaX hr ho (hs.os id o ho).1 hy
 have hrep0:=hrep
 replace hrep:qm P (.list true tid e) w H l cs fp:=hrep
 replace hv:v=jZ (.list true tid e) cs:=hv
 obtain⟨hdr,xs,fp',rfl,rfl,hown,hch⟩:=hrep
 have hv:v=hdr:=hv
 subst hv
 refine⟨o,ho,hn,jD _ hy,v.ownBlock.toList++fp',hnd,⟨v,xs,fp',rfl,rfl,hown,hch⟩,λb hb=>⟨((hs.os id o ho).2 b (hsub b hb)).2.2,.inr ?_⟩⟩
 obtain⟨o',y',q1,q2,q3⟩:=hr
 rw[ho]at q1
 cases q1
 rw[hy]at q2
 cases q2
 unfold qb0
 cases hrp:o.row&&p.isEmpty with
 |true=>
  exact hsub b hb
 |false=>
  rw[hrp]at q3
  obtain⟨b2,off,blk,t,q4,q5,q6⟩:=q3
  refine⟨⟨.list true tid e,l⟩,b2,off,blk,t,v.ownBlock.toList++fp',hy,q4,q5,?_,hb⟩
  obtain⟨b',o',hl,blk',t',pre',c,post',f1,f,f2,e1,e2,e3,e4,e5,e6,_⟩:=(hs.os id o ho).1.desc (σ:=.list true tid e) (y:=(l:(Ty.list true tid e).den)) hy ⟨w,_,_,q4⟩ hrp
  obtain⟨rfl,rfl⟩:=jS.det q4 (hl w (λ_ _=>rfl))
  rw[e1]at q5
  cases q5
  have hsg:=qU e2 (qm.length _ e6)
  rw[e3]at hsg
  simp only[hsg]at q6 ⊢
  have hlc:=qm.length _ e6
  have hc:c=[v]:=by
   match c,hlc with
   |[u],_=>
    have:v=u:=q6
    rw[this]
  rw[hc]
  exact hrep0
theorem qk4{os os':Nat->Option Obj}(hsub:∀id o,os' id=some o->os id=some o){id:Nat}(hid:os' id=os id){p:List qq}{tid:Nat}{e:Ty}{l:List e.den}{v:Value}(h:qh P C w H Φ os (.upd id p tid e l) v):qh P C w H Φ os' (.upd id p tid e l) v:=by
 obtain⟨o,h1,h3,h4,fp,h0,h5,h6⟩:=h
 exact⟨o,by rw[hid];exact h1,h3,h4,fp,h0,h5,λb hb=>⟨(h6 b hb).1,(h6 b hb).2.imp_left λhf=>⟨hf.fz,λj o hj=>hf.obj j o (hsub j o hj),hf.may,hf.lt⟩⟩⟩
theorem qdv(hs:qg P C s a w H Φ){osl:List (Nat×Bool×Ty)}{os':Nat->Option Obj}(hos:∀id,(lk osl id).isSome=true->os' id=s.obj id)(hsub:∀id o,os' id=some o->s.obj id=some o):
  ∀{l:List (Nat×Sh)} {d:TDen l},(l.all λx=>x.2.within osl)=true->qfM s l=some d->∀t av,lk (qdl l d) t=some av->qh P C w H Φ os' av (a.tmps.getD t undef)
 |[],_,_,_,_,_,ht=>by cases ht
 |(u,.v τ)::l,d,hw,h,t,av,ht=>by
  simp only[List.all_cons,Bool.and_eq_true]at hw
  simp only[qfM]at h
  split at h
  ·rename_i σ x hx
   split at h
   ·rename_i y d' hy hd'
    cases h
    obtain⟨e,hy⟩:=qf hy
    subst e
    subst hy
    rw[qdl,jQ]at ht
    cases hb:Nat.beq u t with
    |true=>
     rw[hb]at ht
     cases ht
     obtain rfl:=Nat.eq_of_beq_eq_true hb
     exact qbW (P:=P) (C:=C) (w:=w) (H:=H) (Φ:=Φ) (os:=s.obj) (os':=os') (a:=.val σ y) (b:=.val σ y) (λv hv=>hv) _ (hs.ts _ _ (qbp hx))
    |false=>
     rw[hb]at ht
     exact qdv hs hos hsub hw.2 hd' t av ht
   ·cases h
  ·cases h
 |(u,.r τ)::l,d,hw,h,t,av,ht=>by
  simp only[List.all_cons,Bool.and_eq_true]at hw
  simp only[qfM]at h
  split at h
  ·rename_i σ x hx
   split at h
   ·rename_i y d' hy hd'
    cases h
    obtain⟨e,hy⟩:=qf hy
    subst e
    subst hy
    rw[qdl,jQ]at ht
    cases hb:Nat.beq u t with
    |true=>
     rw[hb]at ht
     cases ht
     obtain rfl:=Nat.eq_of_beq_eq_true hb
     exact qbW (P:=P) (C:=C) (w:=w) (H:=H) (Φ:=Φ) (os:=s.obj) (os':=os') (a:=.ref σ y) (b:=.ref σ y) (λv hv=>hv) _ (hs.ts _ _ (qbp hx))
    |false=>
     rw[hb]at ht
     exact qdv hs hos hsub hw.2 hd' t av ht
   ·cases h
  ·cases h
 |(u,.c b)::l,d,hw,h,t,av,ht=>by
  simp only[List.all_cons,Bool.and_eq_true]at hw
  simp only[qfM]at h
  split at h
  ·rename_i b' hx
   cases hsame:b.same b' with
   |false=>rw[hsame]at h;cases h
   |true=>
    rw[hsame,cond_true]at h
    rw[qdl,jQ]at ht
    cases hb:Nat.beq u t with
    |true=>
     rw[hb]at ht
     cases ht
     obtain rfl:=Nat.eq_of_beq_eq_true hb
     exact qbW (λv hv=>qh.keep hos hsame hw.1 hv) _ (hs.ts _ _ (qbp hx))
    |false=>
     rw[hb]at ht
     exact qdv hs hos hsub hw.2 h t av ht
  ·cases h
 |(u,.k g i τ)::l,d,hw,h,t,av,ht=>by
  simp only[List.all_cons,Bool.and_eq_true]at hw
  simp only[qfM]at h
  split at h
  ·rename_i f j σ x hx
   cases hq:Nat.beq f g&&Nat.beq j i with
   |false=>rw[hq]at h;cases h
   |true=>
   rw[hq,cond_true]at h
   rw[Bool.and_eq_true]at hq
   obtain rfl:=Nat.eq_of_beq_eq_true hq.1
   obtain rfl:=Nat.eq_of_beq_eq_true hq.2
   split at h
   ·rename_i y d' hy hd'
    cases h
    obtain⟨e,hy⟩:=qf hy
    subst e
    subst hy
    rw[qdl,jQ]at ht
    cases hb:Nat.beq u t with
    |true=>
     rw[hb]at ht
     cases ht
     obtain rfl:=Nat.eq_of_beq_eq_true hb
     refine qbW (λv hv=>?_) _ (hs.ts _ _ (qbp hx))
     obtain⟨vs,us,h1,h2,u1,us1,h3,h4,h5⟩:=hv
     exact⟨vs,us,h1,h2,u1,us1,h3,qh.keep hos (a:=.ptr j []) (b:=.ptr j []) (by simp[AV.same,qO]) hw.1 h4,h5⟩
    |false=>
     rw[hb]at ht
     exact qdv hs hos hsub hw.2 hd' t av ht
   ·cases h
  ·cases h
 |(u,.p vw i q1 q2)::l,d,hw,h,t,av,ht=>by
  simp only[List.all_cons,Bool.and_eq_true]at hw
  simp only[qfM]at h
  split at h
  ·rename_i j p hx
   cases hq: !vw&&Nat.beq j i with
   |false=>rw[hq]at h;cases h
   |true=>
   rw[hq,cond_true]at h
   rw[Bool.and_eq_true,Bool.not_eq_true']at hq
   obtain⟨rfl,hq⟩:=hq
   obtain rfl:=Nat.eq_of_beq_eq_true hq
   split at h
   ·rename_i n d' hn hd'
    cases h
    obtain rfl:=qdU hn
    rw[qdl,jQ]at ht
    cases hb:Nat.beq u t with
    |true=>
     rw[hb]at ht
     cases ht
     obtain rfl:=Nat.eq_of_beq_eq_true hb
     refine qbW (λv hv=>?_) _ (hs.ts _ _ (qbp hx))
     obtain⟨o,y,b,off,k1,k2⟩:=hv
     exact⟨o,y,b,off,by rw[hos j hw.1];exact k1,k2⟩
    |false=>
     rw[hb]at ht
     exact qdv hs hos hsub hw.2 hd' t av ht
   ·cases h
  ·rename_i j p hx
   cases hq:vw&&Nat.beq j i with
   |false=>rw[hq]at h;cases h
   |true=>
   rw[hq,cond_true]at h
   rw[Bool.and_eq_true]at hq
   obtain⟨rfl,hq⟩:=hq
   obtain rfl:=Nat.eq_of_beq_eq_true hq
   split at h
   ·rename_i n d' hn hd'
    cases h
    obtain rfl:=qdU hn
    rw[qdl,jQ]at ht
    cases hb:Nat.beq u t with
    |true=>
     rw[hb]at ht
     cases ht
     obtain rfl:=Nat.eq_of_beq_eq_true hb
     refine qbW (λv hv=>?_) _ (hs.ts _ _ (qbp hx))
     obtain⟨o,y,k1,k2⟩:=hv
     exact⟨o,y,by rw[hos j hw.1];exact k1,k2⟩
    |false=>
     rw[hb]at ht
     exact qdv hs hos hsub hw.2 hd' t av ht
   ·cases h
  ·cases h
 |(u,.u i q1 q2 tid e)::l,d,hw,h,t,av,ht=>by
  simp only[List.all_cons,Bool.and_eq_true]at hw
  simp only[qfM]at h
  split at h
  case h_2=>cases h
  rename_i y d' hy hd'
  cases h
  rw[qdl,jQ]at ht
  cases hb:Nat.beq u t with
  |false=>
   rw[hb]at ht
   exact qdv hs hos hsub hw.2 hd' t av ht
  |true=>
   rw[hb]at ht
   cases ht
   obtain rfl:=Nat.eq_of_beq_eq_true hb
   cases hx:qcR u (s.get u)with
   |none=>rw[hx]at hy;cases hy
   |some b=>
   rw[hx]at hy
   refine qbW (os:=s.obj) (b:=b) (λv hv=>?_) _ (hs.ts _ _ (qbp hx))
   unfold rowAt at hy
   split at hy
   ·rename_i j p t' e' l' hbb
    cases hbb
    cases hj:Nat.beq j i with
    |false=>rw[hj]at hy;cases hy
    |true=>
    rw[hj,cond_true]at hy
    obtain rfl:=Nat.eq_of_beq_eq_true hj
    split at hy
    ·rename_i n l2 hn hl2
     cases hy
     obtain rfl:=qdU hn
     obtain⟨_,rfl,rfl,rfl⟩:=qe6 hl2
     exact qk4 hsub (hos _ hw.1) hv
    ·cases hy
   ·rename_i j p hbb
    cases hbb
    cases hj:Nat.beq j i&&e.noFn with
    |false=>rw[hj]at hy;cases hy
    |true=>
    rw[hj,cond_true]at hy
    rw[Bool.and_eq_true]at hj
    obtain rfl:=Nat.eq_of_beq_eq_true hj.1
    split at hy
    ·rename_i n o hn ho
     obtain rfl:=qdU hn
     rw[jJ]at hy
     obtain⟨⟨σ,y0⟩,hy0,hy⟩:=Option.bind_eq_some_iff.1 hy
     rw[qi]at hy
     obtain⟨l2,hl2,hy⟩:=Option.bind_eq_some_iff.1 hy
     cases hy
     obtain⟨hσ,hyl⟩:=qfs hl2
     simp only at hσ
     subst hσ
     obtain rfl:=eq_of_heq hyl
     exact qk4 hsub (hos _ hw.1) (view_upd hs ho hy0 hj.2 hv)
    ·cases hy
   ·cases hy
theorem qkE:∀{l:List (Nat×Bool×Ty)} {d:ODen l},getO s l=some d->∀id,(lk (qlN l d) id).join=if(lk l id).isSome=true then s.obj id else none
 |[],_,_,_=>rfl
 |(i,b,τ)::l,d,h,id=>by
  simp only[getO]at h
  split at h
  ·rename_i o ho
   cases hrow:o.row==b with
   |false=>rw[hrow]at h;cases h
   |true=>
    rw[hrow,cond_true]at h
    split at h
    ·rename_i y d' hy hd'
     cases h
     obtain⟨row,σ,x⟩:=o
     obtain⟨e,hy⟩:=qf hy
     simp only at e hrow
     subst e
     obtain rfl:row=b:=by simpa using hrow
     subst hy
     rw[qlN,jQ,jQ]
     cases hb:Nat.beq i id with
     |true=>
      obtain rfl:=Nat.eq_of_beq_eq_true hb
      simp[ho]
     |false=>exact qkE hd' id
    ·cases h
  ·cases h
theorem qlc{sk:qdp}{d:sk.Den}(h:sk.get s=some d):(∀id o,(sk.fill d).obj id=some o->s.obj id=some o)/\getK s sk.mp=some d.2.2:=by
 unfold qdp.get at h
 cases hw:sk.ts.all λx=>x.2.within sk.os with
 |false=>rw[hw]at h;cases h
 |true=>
 rw[hw,cond_true]at h
 split at h
 ·rename_i d1 d2 d3 h1 h2 h3
  cases h
  refine⟨λid o hid=>?_,h3⟩
  have hid':(lk (qlN sk.os d2) id).join=some o:=hid
  rw[qkE h2]at hid'
  split at hid'
  ·exact hid'
  ·cases hid'
 ·cases h
theorem qld{sk:qdp}{d:sk.Den}(h:sk.get s=some d)(hs:qg P C s a w H Φ):qg P C (sk.fill d) a w H Φ:=by
 have hsub:=(qlc h).1
 unfold qdp.get at h
 cases hw:sk.ts.all λx=>x.2.within sk.os with
 |false=>rw[hw]at h;cases h
 |true=>
 rw[hw,cond_true]at h
 split at h
 ·rename_i d1 d2 d3 h1 h2 h3
  cases h
  exact hs.weaken hsub (qdv hs (osl:=sk.os) (λid hid=>by
   have:=qkE h2 id
   rw[if_pos hid]at this
   exact this) hsub hw h1)
 ·cases h
theorem qbM{a b:XK}:eqX a b=true↔a=b:=by
 unfold eqX
 rw[Bool.and_eq_true,beq_iff_eq,beq_iff_eq,Prod.ext_iff]
theorem qfQ{a b:XK}(h:a≠b):eqX a b=false:=by
 cases hq:eqX a b with
 |false=>rfl
 |true=>exact absurd (qbM.1 hq) h
section xlists
variable {β:Type}
theorem qac:∀(l:List (XK×β)) (q:XK) (v:β),qX (qaC l q v) q=some v
 |[],q,v=>by simp[qaC,qX,qbM.2 (rfl:q=q)]
 |x::r,q,v=>by
  unfold qaC
  cases h:eqX x.1 q with
  |true=>simp[qX,qbM.2 (rfl:q=q)]
  |false=>rw[cond_false];unfold qX;rw[h,cond_false];exact qac r q v
theorem qaq{q k:XK}(hne:k≠q)(v:β):∀(l:List (XK×β)),qX (qaC l q v) k=qX l k
 |[]=>by simp[qaC,qX,qfQ (λe:q=k=>hne e.symm)]
 |x::r=>by
  unfold qaC
  cases h:eqX x.1 q with
  |true=>
   have e:=qbM.1 h
   have h2:eqX x.1 k=false:=qfQ (λe2=>hne (e2.symm.trans e))
   have h3:eqX q k=false:=qfQ (λe2:q=k=>hne e2.symm)
   simp[qX,h2,h3]
  |false=>
   rw[cond_false]
   unfold qX
   rw[qaq hne v r]
theorem qb2:∀(l:List (XK×β)) (q:XK) (v:β),(qaC l q v).length=if(qX l q).isSome then l.length else l.length+1
 |[],q,v=>by simp[qaC,qX]
 |x::r,q,v=>by
  unfold qaC qX
  cases h:eqX x.1 q with
  |true=>simp
  |false=>
   rw[cond_false,cond_false,List.length_cons,qb2 r q v,List.length_cons]
   split<;>rfl
theorem qdT:∀(l:List (XK×β)) (q:XK) (v:β) (k:XK),k∈(qaC l q v).map (·.1)↔k=q\/k∈l.map (·.1)
 |[],q,v,k=>by simp[qaC]
 |x::r,q,v,k=>by
  unfold qaC
  cases h:eqX x.1 q with
  |true=>
   have e:=qbM.1 h
   simp[e]
  |false=>
   rw[cond_false]
   simp only[List.map_cons,List.mem_cons,qdT r q v k]
   constructor
   ·rintro(h|h|h)
    ·exact .inr (.inl h)
    ·exact .inl h
    ·exact .inr (.inr h)
   ·rintro(h|h|h)
    ·exact .inr (.inl h)
    ·exact .inl h
    ·exact .inr (.inr h)
theorem qfE:∀(l:List (XK×β)) (q:XK) (v:β),(l.map (·.1)).Nodup->((qaC l q v).map (·.1)).Nodup
 |[],q,v,_=>by simp[qaC]
 |x::r,q,v,h=>by
  simp only[List.map_cons,List.nodup_cons]at h
  unfold qaC
  cases hq:eqX x.1 q with
  |true=>
   have e:=qbM.1 hq
   rw[cond_true,List.map_cons,List.nodup_cons,<-e]
   exact h
  |false=>
   rw[cond_false]
   simp only[List.map_cons,List.nodup_cons,qdT]
   have hne:x.1≠q:=λe=>by rw[qbM.2 e]at hq;cases hq
   exact⟨λhh=>hh.elim hne h.1,qfE r q v h.2⟩
theorem qlA:∀{l:List (XK×β)} {q:XK},q∉l.map (·.1)->qX l q=none
 |[],_,_=>rfl
 |x::r,q,h=>by
  simp only[List.map_cons,List.mem_cons,not_or]at h
  unfold qX
  rw[qfQ (λe=>h.1 e.symm),cond_false]
  exact qlA h.2
theorem qnq:∀{l:List (XK×β)} {q:XK},q∈l.map (·.1)->(qX l q).isSome=true
 |[],_,h=>by simp at h
 |x::r,q,h=>by
  unfold qX
  cases hq:eqX x.1 q with
  |true=>rfl
  |false=>
   rw[cond_false]
   simp only[List.map_cons,List.mem_cons]at h
   exact qnq (h.resolve_left (λe=>by rw[qbM.2 e.symm]at hq;cases hq))
theorem qiB{l:List (XK×β)}{q:XK}:(qX l q).isSome=true↔q∈l.map (·.1):=by
 constructor
 ·intro h
  cases hd:decide (q∈l.map (·.1))with
  |true=>exact of_decide_eq_true hd
  |false=>
   rw[qlA (of_decide_eq_false hd)]at h
   cases h
 ·exact qnq
theorem qfH:∀{l:List (XK×β)},(l.map (·.1)).Nodup->∀{y:XK×β},y∈l->qX l y.1=some y.2
 |[],_,_,h=>by cases h
 |x::r,hn,y,h=>by
  simp only[List.map_cons,List.nodup_cons]at hn
  unfold qX
  rcases List.mem_cons.1 h with rfl|h
  ·rw[qbM.2 rfl,cond_true]
  ·have hne:x.1≠y.1:=λe=>hn.1 (by rw[e];exact List.mem_map.2 ⟨y,h,rfl⟩)
   rw[qfQ hne,cond_false]
   exact qfH hn.2 h
theorem qbi{k:XK}{y:XK×β}:∀{l:List (XK×β)},y∈qaP k l↔y∈l/\y.1≠k
 |[]=>by simp[qaP]
 |x::r=>by
  unfold qaP
  cases hq:eqX x.1 k with
  |true=>
   have e:=qbM.1 hq
   rw[cond_true,qbi,List.mem_cons]
   constructor
   ·rintro⟨h1,h2⟩;exact⟨.inr h1,h2⟩
   ·rintro⟨h1|h1,h2⟩
    ·rw[h1]at h2;exact absurd e h2
    ·exact⟨h1,h2⟩
  |false=>
   have hne:x.1≠k:=λe=>by rw[qbM.2 e]at hq;cases hq
   rw[cond_false,List.mem_cons,qbi,List.mem_cons]
   constructor
   ·rintro(h|⟨h1,h2⟩)
    ·exact⟨.inl h,by rw[h];exact hne⟩
    ·exact⟨.inr h1,h2⟩
   ·rintro⟨h1|h1,h2⟩
    ·exact .inl h1
    ·exact .inr ⟨h1,h2⟩
end xlists
section xmaps
variable {β:Type} {ev:β->Value} {kt vt:Nat}
theorem qfw.empty:qfw P kt ev (.map []) ([]:List (XK×β)):=⟨λ_ _ _=>rfl,λ_ _ _ _=>rfl,rfl,List.nodup_nil,(λkl h=>by cases h),(λk h=>by cases h)⟩
theorem qnV{a b:XK}(h:jN a=jN b):a=b:=by
 unfold jN at h
 injection h with h
 have h:=congrArg Array.toList h
 simp at h
 exact Prod.ext h.1 h.2
theorem qmQ(K:KeyP P kt){a b:XK}{la lb:Lit}(ha:keyOf P kt (jN a)=some la)(hb:keyOf P kt (jN b)=some lb)(hne:a≠b):la≠lb:=by
 rintro rfl
 exact hne (qnV (K.keyed.inj ha hb))
theorem qfw.put{D:MV}{kv:List (XK×β)}(K:KeyP P kt)(h:qfw P kt ev D kv)(hD:Maps.Tidy D){q:XK}{kl:Lit}(hk:keyOf P kt (jN q)=some kl)(v:β):qfw P kt ev (D.put kl (.held (ev v))) (qaC kv q v):=by
 refine⟨λk l hl=>?_,λk l z hl=>?_,?_,qfE _ _ _ h.nd,λl hl=>?_,λk hk2=>?_⟩
 ·by_cases e:k=q
  ·subst e
   rw[hk]at hl
   cases hl
   rw[Maps.has_put_same hD.isMap (K.keyed.key hk),qac];rfl
  ·rw[Maps.has_put_other (qmQ K hl hk e),qaq e];exact h.has k l hl
 ·by_cases e:k=q
  ·subst e
   rw[hk]at hl
   cases hl
   rw[Maps.atKey_put_same hD.isMap (K.keyed.key hk),qac]
  ·rw[Maps.atKey_put_other (qmQ K hl hk e),qaq e];exact h.val k l z hl
 ·rw[Maps.size_put hD,qb2,h.has q kl hk,h.size]
 ·by_cases e:l=kl
  ·subst e
   exact⟨q,(qdT _ _ _ _).2 (.inl rfl),hk⟩
  ·rw[Maps.has_put_other e]at hl
   obtain⟨k,k1,k2⟩:=h.keys l hl
   exact⟨k,(qdT _ _ _ _).2 (.inr k1),k2⟩
 ·rcases(qdT _ _ _ _).1 hk2 with rfl|h1
  ·exact⟨kl,hk⟩
  ·exact h.kof k h1
theorem qjj{k:TypeId}{Rd:Value->Option (MV×List MemPlace)}{b n:Nat}{D:MV}(h:w.ownsMap P k Rd b n D):w.ownsMap P k Rd b (Maps.size D) D:=by
 obtain⟨es,clock,h1,h2,_,rfl⟩:=h
 exact⟨es,clock,h1,h2,by simp[Maps.size,length_sorted],rfl⟩
theorem qeu.look{l:List (XK×β)}{b:Nat}(h:qeu P kt ev w b l)(K:KeyP P kt){T:TypeId}(hT:P.underlying T=some (.map kt vt)){z0:β}(hz:(zeroValue vt).run P w = .ok (ev z0) w){q:XK}(h1:qdi q.1=true)(h2:qdi q.2=true):
  (Instr.lookup T (.map (some b)) (jN q) true).run P w = .ok (.tuple #[ev ((qX l q).getD z0),.bool (qX l q).isSome]) w/\(Instr.lookup T (.map (some b)) (jN q) false).run P w = .ok (ev ((qX l q).getD z0)) w:=by
 obtain⟨kl,hk⟩:=K.key q h1 h2
 obtain⟨D,hown,hrel⟩:=h
 have hv:∀v ps,qer v=some (D.atKey kl (.held (ev z0)),ps)->v=ev ((qX l q).getD z0):=by
  intro v ps hh
  rw[hrel.val q kl _ hk]at hh
  unfold qer at hh
  injection hh with hh
  injection hh with hh _
  cases hq:qX l q with
  |none=>rw[hq]at hh;injection hh
  |some u=>rw[hq]at hh;injection hh
 constructor
 ·obtain⟨v,ps,hrun,hRv⟩:=hown.look_ok K.keyed hT hz (zd:=.held (ev z0)) (zp:=[]) rfl hk
  rw[hrun,hv v ps hRv,hrel.has q kl hk]
 ·obtain⟨v,ps,hrun,hRv⟩:=hown.lookup K.keyed hT hz (zd:=.held (ev z0)) (zp:=[]) rfl hk
  rw[hrun,hv v ps hRv]
theorem qeu.put{l:List (XK×β)}{b:Nat}(h:qeu P kt ev w b l)(K:KeyP P kt){T:TypeId}(hT:P.underlying T=some (.map kt vt)){q:XK}(h1:qdi q.1=true)(h2:qdi q.2=true)(hl:(l.length:Int)<=274877906944)(v:β):
  ∃w',(Instr.mapUpdate T (.map (some b)) (jN q) (ev v)).run P w = .ok () w'/\qeu P kt ev w' b (qaC l q v)/\jM (· = b) w w':=by
 obtain⟨kl,hk⟩:=K.key q h1 h2
 obtain⟨D,hown,hrel⟩:=h
 obtain⟨w',hrun,hown',hturn⟩:=hown.store K.keyed hT (by unfold maxLen;omega) hk (val:=ev v) (d:=.held (ev v)) (ps:=[]) rfl
 have hrel':=hrel.put K (hown.tidy K.keyed) hk v
 have hg:=hturn.grown
 refine⟨w',hrun,⟨_,?_,hrel'⟩,⟨hg.os,hg.tape,hg.output,hg.size,λi hi hne=>hg.block i hi (λe=>hne (by injection e))⟩⟩
 rw[<-hrel'.size]
 exact qjj hown'
end xmaps
theorem jL{α:Type}{o:Option α}{f:α->Option R}(h:qa o f=some r):∃x,o=some x/\f x=some r:=by
 cases o with
 |none=>cases h
 |some x=>exact⟨x,rfl,h⟩
theorem qed{a b:Value}(h:[a]=[b]):a=b:=by injection h
theorem qhD{own:Bool}{n i j:Nat}{cs:List Value}{y:qcM n}{fp:List Nat}(h:qS P own i j w H n y cs fp):cs=[jZ (.ext own n i j) cs]:=by
 obtain⟨v,e,_⟩:=qS.shape h
 rw[e]
 rfl
theorem qns{b:AV}{v:Value}{f:XK->Option R}(hr:qh P C w H Φ s.obj b v)(h:keyX b f=some r):∃q:XK,v=jN q/\qdi q.1=true/\qdi q.2=true/\f q=some r:=by
 unfold keyX at h
 split at h
 case h_2=>cases h
 rename_i τ x
 rw[qi]at h
 replace h:=Option.bind_eq_some_iff.1 h
 obtain⟨q,hq,h⟩:=h
 obtain⟨e,hq⟩:=qf hq
 subst e
 subst hq
 obtain⟨_,cs,hv,c1,c2,f1,f2,e1,_,⟨h1,_⟩,⟨h2,_⟩⟩:=hr
 refine⟨q,?_,?_⟩
 ·rw[hv,e1,h1,h2];rfl
 ·unfold inI at h
  cases k1:qdi (q:XK).1 with
  |false=>rw[k1]at h;cases h
  |true=>
   cases k2:qdi (q:XK).2 with
   |false=>rw[k1,k2]at h;cases h
   |true=>rw[k1,k2]at h;exact⟨rfl,rfl,h⟩
theorem qh.tyK(w:World)(H:FH)(Φ:Nat->qB)(os:Nat->Option Obj)(q:XK):qh P C w H Φ os (.val tyK q) (jN q):=
 ⟨rfl,[.int .i64 q.1,.int .i64 q.2],rfl,[.int .i64 q.1],[.int .i64 q.2],[],[],rfl,rfl,⟨rfl,rfl⟩,⟨rfl,rfl⟩⟩
theorem qh.tyS(w:World)(H:FH)(Φ:Nat->qB)(os:Nat->Option Obj)(y:XK×XK):qh P C w H Φ os (.val tyS y) (qcO y):=
 ⟨rfl,qcD y,rfl,[.int .i64 y.1.1,.int .i64 y.1.2],[.int .i64 y.2.1,.int .i64 y.2.2],[],[],rfl,rfl,⟨[.int .i64 y.1.1],[.int .i64 y.1.2],[],[],rfl,rfl,⟨rfl,rfl⟩,⟨rfl,rfl⟩⟩,⟨[.int .i64 y.2.1],[.int .i64 y.2.2],[],[],rfl,rfl,⟨rfl,rfl⟩,⟨rfl,rfl⟩⟩⟩
theorem qjr{y:XK×XK}{w:World}{H:FH}{cs fp}(h:qm P tyS w H y cs fp):cs=qcD y/\fp=[]:=by
 obtain⟨c1,c2,f1,f2,rfl,rfl,⟨a1,a2,g1,g2,rfl,rfl,⟨rfl,rfl⟩,⟨rfl,rfl⟩⟩,⟨b1,b2,g3,g4,rfl,rfl,⟨rfl,rfl⟩,⟨rfl,rfl⟩⟩⟩:=h
 exact⟨rfl,rfl⟩
theorem qfr{w:World}{H:FH}:∀{l:List (XK×XK)} {xs fp},qe (qm P tyS w H) l xs fp->xs=(l.map qcD).flatten/\fp=[]
 |[],_,_,⟨e,e'⟩=>⟨e,e'⟩
 |y::l,_,_,⟨c,xs',f,fp',e1,e2,h1,h2⟩=>by
  obtain⟨h3,h4⟩:=qfr h2
  obtain⟨h5,h6⟩:=qjr (y:=y) h1
  rw[e1,e2,h3,h4,h5,h6]
  exact⟨rfl,rfl⟩
theorem qhq{F:AV->Bool}(hs:qg P C s a w H Φ){id:Nat}{p:List qq}{o:Obj}(ho:s.obj id=some o){n i j:Nat}{y:qcM n}(hy:qP o.τ o.x p=some ⟨.ext true n i j,y⟩){v:Value}(hr:qh P C w H Φ s.obj (.view id p) v)(hF:F=AV.stale id o.row\/(F=AV.staleX id/\o.row=false/\p.any qq.isI=false)):
  ∃f,qS P true i j w H n y [v] f/\f.Nodup/\(∀k∈f,H k=none)/\(∀k∈f,k∈(Φ id).fp)/\
   ∀(w':World) (f':List Nat) (y':qcM n) (z:o.τ.den),jM (· ∈f) w w'->qS P true i j w' H n y' [v] f'->f'.Nodup->(∀k∈f',k∈f\/w.heap.size<=k)->j1 o.τ o.x p (.ext true n i j) y'=some z->
    ∃Φ',qg P C ((s.killIf F).setObj id (some ⟨o.row,o.τ,z⟩)) a w' H Φ'/\∀j o',((s.killIf F).setObj id (some ⟨o.row,o.τ,z⟩)).obj j=some o'->∀k,k∈f\/w.heap.size<=k->k∉f'->k∉(Φ' j).fp:=by
 obtain⟨o',y',q1,q2,q3⟩:=hr
 rw[ho]at q1
 cases q1
 rw[hy]at q2
 cases q2
 have hok:=(hs.os id o ho).1
 have hob:=(hs.os id o ho).2
 have fin:∀(w':World) (f f' F':List Nat) (z:o.τ.den),(∀k∈f,k∈(Φ id).fp)->jM (· ∈f) w w'->(∀k∈F',(k∈(Φ id).fp\/(w.heap.size<=k/\k<w'.heap.size)))->qK P w' H ⟨o.row,o.τ,z⟩ ⟨(Φ id).b,(Φ id).hdr,F'⟩->(∀k,k∈f\/w.heap.size<=k->k∉f'->k∉F')->(o.row=false->p.any qq.isI=false->w'.heap[(Φ id).b]? = w.heap[(Φ id).b]?)->
   ∃Φ',qg P C ((s.killIf F).setObj id (some ⟨o.row,o.τ,z⟩)) a w' H Φ'/\∀j o',((s.killIf F).setObj id (some ⟨o.row,o.τ,z⟩)).obj j=some o'->∀k,k∈f\/w.heap.size<=k->k∉f'->k∉(Φ' j).fp:=by
  intro w' f f' F' z hin hm hF' hobj hgone hroot
  have hokw:HOk H w':=hs.hok.mod hm (λk hk=>(hob k (hin k hk)).1)
  have hgo:∀j o',((s.killIf F).setObj id (some ⟨o.row,o.τ,z⟩)).obj j=some o'->∀k,k∈f\/w.heap.size<=k->k∉f'->k∉(qaQ Φ id ⟨(Φ id).b,(Φ id).hdr,F'⟩ j).fp:=by
   intro j o' hj k hk hk'
   rw[St.obj_setObj]at hj
   by_cases hji:j=id
   ·rw[hji,qr]
    exact hgone k hk hk'
   ·rw[qR _ _ hji]
    rw[if_neg (λe=>hji e.symm)]at hj
    intro hkj
    rcases hk with hk|hk
    ·exact hs.disj id j o o' (λe=>hji e.symm) ho hj k (hin k hk) hkj
    ·have:=((hs.os j o' hj).2 k hkj).2.2
     omega
  refine⟨_,?_,hgo⟩
  exact hs.changeF (F:=F) ho z ⟨(Φ id).b,(Φ id).hdr,F'⟩ rfl rfl (FH.le_refl _) hokw hs.hnew (hs.mod.trans_new hm (λk hk=>(hob k (hin k hk)).2.1)) hm.size (λj o2 hj hoj k hk=>⟨hm.block k ((hs.os j o2 hoj).2 k hk).2.2 (λhkf=>hs.disj j id o2 o hj hoj ho k hk (hin k hkf)),((hs.os j o2 hoj).2 k hk).1⟩) hobj (by
   intro k hk
   rcases hF' k hk with h1|⟨h1,h2⟩
   ·obtain⟨p1,p2,p3⟩:=hob k h1
    exact⟨p1,p2,Nat.lt_of_lt_of_le p3 hm.size,λj o2 hj hoj=>hs.disj id j o o2 (λe=>hj e.symm) ho hoj k h1⟩
   ·refine⟨?_,.inr (Nat.le_trans hs.mod.size h1),h2,λj o2 _ hoj hkj=>?_⟩
    ·cases hq:H k with
     |none=>rfl
     |some c=>exact absurd (hs.hok.lt hq) (by omega)
    ·have:=((hs.os j o2 hoj).2 k hkj).2.2
     omega) (λq hf=>.inl (by
    rcases hF with rfl|⟨rfl,_⟩
    ·simpa[AV.stale]using hf
    ·simpa[AV.staleX]using hf)) (λ_ _ _ _ _=>by rcases hF with rfl|⟨rfl,_⟩<;>rfl) (λq hf=>by
    rcases hF with rfl|⟨rfl,hrow,hp⟩
    ·refine .inl ?_
     simp only[AV.stale,Nat.beq_refl,Bool.true_and,Bool.not_eq_false']at hf
     exact hf
    ·refine .inr λy b off blk t _ hy' hloc' hblk'=>?_
     have hq:q.any qq.isI=false:=by simpa[AV.staleX]using hf
     obtain⟨y',hy2⟩:=qbm o.τ z hq (jD _ hy')
     have hloc2:jS w' ⟨o.row,o.τ,z⟩ ⟨(Φ id).b,(Φ id).hdr,F'⟩ q b off:=by
      unfold jS at hloc' ⊢
      simp only[hrow]at hloc' ⊢
      exact jO.static _ hq hloc'
     have hb:b=(Φ id).b:=by
      unfold jS at hloc'
      simp only[hrow]at hloc'
      exact jO.root _ hq hloc'
     exact⟨⟨y.1,y'⟩,b,off,blk,t,rfl,hy2,hloc2,by rw[hb]at hblk' ⊢;rw[hroot hrow hp];exact hblk',rfl⟩)
 cases hrp:o.row&&p.isEmpty with
 |true=>
  rw[hrp]at q3
  simp only at q3
  subst q3
  obtain⟨row,τ,x⟩:=o
  simp only[Bool.and_eq_true,List.isEmpty_iff]at hrp
  obtain⟨rfl,rfl⟩:=hrp
  rw[qH]at hy
  cases hy
  obtain⟨hn,hnd,hrow,cs,hcs,hrep⟩:=hok
  have hcs1:cs=[(Φ id).hdr]:=by rw[hcs];exact qhD (n:=n) hrep
  have hrep1:qS P true i j w H n x [(Φ id).hdr] (Φ id).fp:=by rw[<-hcs1];exact hrep
  refine⟨(Φ id).fp,hrep1,hnd,λk hk=>(hob k hk).1,λk hk=>hk,λw' f' y' z hm hrep' hnd' hf' hz=>?_⟩
  rw[qh5]at hz
  have hz:=qoi hz
  subst hz
  exact fin w' (Φ id).fp f' f' _ (λk hk=>hk) hm (λk hk=>(hf' k hk).imp_right (λh1=>⟨h1,(qS.dat hrep' k hk).lt⟩)) ⟨hn,hnd',hrow,[(Φ id).hdr],rfl,hrep'⟩ (λk _ hk=>hk) (λh=>by cases h)
 |false=>
  rw[hrp]at q3
  obtain⟨b,off,blk,t,hloc,hblk,hv⟩:=q3
  obtain⟨b',o',blk',t',pre',c,post',f1,f,f2,e1,e2,e3,e4,e5,e6,hl',e7⟩:=hok.desc2 hy ⟨w,_,_,hloc⟩ hrp
  obtain⟨rfl,rfl⟩:=jS.det hloc (hl' w (λ_ _=>rfl))
  rw[hblk]at e1
  cases e1
  have hcv:c=[v]:=by
   have hseg:seg blk off (Ty.ext true n i j).size=c:=by rw[<-e3];exact qU e2 (qm.length _ e6)
   rw[hv,hseg]
   exact qhD (n:=n) e6
  subst hcv
  have hnd:=hok.2.1
  rw[e4]at hnd
  have hndf:f.Nodup:=(List.nodup_append.1 (List.nodup_append.1 hnd).1).2.1
  have hin:∀k∈f,k∈(Φ id).fp:=λk hk=>by rw[e4];simp[hk]
  have hin1:∀k∈f1,k∈(Φ id).fp:=λk hk=>by rw[e4];simp[hk]
  have hin2:∀k∈f2,k∈(Φ id).fp:=λk hk=>by rw[e4];simp[hk]
  have hnot1:∀k∈f1,k∉f:=λk h1 h2=>(List.nodup_append.1 (List.nodup_append.1 hnd).1).2.2 k h1 k h2 rfl
  have hnot2:∀k∈f2,k∉f:=λk h1 h2=>(List.nodup_append.1 hnd).2.2 k (by simp[h2]) k h1 rfl
  refine⟨f,e6,hndf,λk hk=>(hob k (hin k hk)).1,hin,λw' f' y' z hm hrep' hnd' hf' hz=>?_⟩
  have hb1:b∉f:=hnot1 b e5
  have hblt:b<w.heap.size:=(Array.getElem?_eq_some_iff.1 hblk).1
  have hblkw:w'.heap[b]? = some (.cells (pre'++[v]++post').toArray t (0,0)):=by
   rw[hm.block b hblt hb1,hblk]
   rw[<-e2]
  have hnd3:(f1++f'++f2).Nodup:=by
   have k1:=List.nodup_append.1 hnd
   have k2:=List.nodup_append.1 k1.1
   rw[List.nodup_append,List.nodup_append]
   refine⟨⟨k2.1,hnd',?_⟩,k1.2.1,?_⟩
   ·rintro x hx _ hx2 rfl
    rcases hf' x hx2 with h1|h1
    ·exact hnot1 x hx h1
    ·have:=(hob x (hin1 x hx)).2.2;omega
   ·rintro x hx _ hx2 rfl
    rcases List.mem_append.1 hx with h1|h1
    ·exact k1.2.2 x (by simp[h1]) x hx2 rfl
    ·rcases hf' x h1 with h1|h1
     ·exact hnot2 x hx2 h1
     ·have:=(hob x (hin2 x hx2)).2.2;omega
  have hobj2:=e7 w' [v] f' (.ext true n i j) y' z hrep' hz hblkw (by
   intro k hk _
   rcases List.mem_append.1 hk with h1|h1
   ·exact hm.block k (hob k (hin1 k h1)).2.2 (hnot1 k h1)
   ·exact hm.block k (hob k (hin2 k h1)).2.2 (hnot2 k h1)) hnd3
  refine fin w' f f' (f1++f'++f2) z hin hm (λk hk=>?_) hobj2 (λk hk hk' hkF=>?_) (λhrow hp=>?_)
  rotate_left
  ·rcases List.mem_append.1 hkF with h1|h1
   ·rcases List.mem_append.1 h1 with h1|h1
    ·rcases hk with hk|hk
     ·exact hnot1 k h1 hk
     ·have:=(hob k (hin1 k h1)).2.2;omega
    ·exact hk' h1
   ·rcases hk with hk|hk
    ·exact hnot2 k h1 hk
    ·have:=(hob k (hin2 k h1)).2.2;omega
  ·have hb:b=(Φ id).b:=by
    unfold jS at hloc
    simp only[hrow]at hloc
    exact jO.root _ hp hloc
   rw[<-hb]
   exact hm.block b hblt hb1
  rcases List.mem_append.1 hk with h1|h1
  ·rcases List.mem_append.1 h1 with h1|h1
   ·exact .inl (hin1 k h1)
   ·rcases hf' k h1 with h2|h2
    ·exact .inl (hin k h2)
    ·exact .inr ⟨h2,(qS.dat hrep' k h1).lt⟩
  ·exact .inl (hin2 k h1)
theorem qdm(hs:qg P C s a w H Φ){id:Nat}{p:List qq}{o:Obj}(ho:s.obj id=some o){n i j:Nat}{y:qcM n}(hy:qP o.τ o.x p=some ⟨.ext true n i j,y⟩){v:Value}(hr:qh P C w H Φ s.obj (.view id p) v):
  ∃f,qS P true i j w H n y [v] f/\f.Nodup/\(∀k∈f,H k=none)/\
   ∀(w':World) (f':List Nat) (y':qcM n) (z:o.τ.den),jM (· ∈f) w w'->qS P true i j w' H n y' [v] f'->f'.Nodup->(∀k∈f',k∈f\/w.heap.size<=k)->j1 o.τ o.x p (.ext true n i j) y'=some z->
    ∃Φ',qg P C ((s.killIf (AV.stale id o.row)).setObj id (some ⟨o.row,o.τ,z⟩)) a w' H Φ':=by
 obtain⟨f,h1,h2,h3,_,h4⟩:=qhq hs ho hy hr (.inl rfl)
 exact⟨f,h1,h2,h3,λw' f' y' z q1 q2 q3 q4 q5=>let⟨Φ',h,_⟩:=h4 w' f' y' z q1 q2 q3 q4 q5;⟨Φ',h⟩⟩
theorem extOf_ok(hs:qg P C s a w H Φ){av:AV}{v:Value}(hr:qh P C w H Φ s.obj av v){f:(n i j:Nat)->qcM n->Option R}(h:extOf s av f=some r):
  ∃n i j y,f n i j y=some r/\∃own fp,(own=true\/n=0)/\∀w',jM qV w w'->qS P own i j w' H n y [v] fp:=by
 unfold extOf at h
 split at h
 ·rename_i o n i j x
  cases hn:Nat.beq n 0 with
  |false=>rw[hn]at h;cases h
  |true=>
   rw[hn,cond_true]at h
   obtain rfl:=Nat.eq_of_beq_eq_true hn
   obtain⟨hf,cs,hv,hrep⟩:=hr
   have ho:o=false:=by simpa[Ty.isFz]using hf
   subst ho
   refine⟨0,i,j,x,h,false,[],.inr rfl,λw' hm=>?_⟩
   have h2:=qS.mono (n:=0) (H':=H) (FH.le_refl H) (w':=w') (by simp) (show qS P false i j w H 0 x cs []from hrep)
   rw[qhD (n:=0) h2,<-hv]at h2
   exact h2
 ·rename_i id p
  split at h
  case h_2=>cases h
  rename_i o ho
  rw[jJ]at h
  obtain⟨⟨σ,y⟩,hy,h⟩:=Option.bind_eq_some_iff.1 h
  simp only at h
  split at h
  case h_2=>cases h
  rename_i n i j y'
  obtain⟨cs,fp,hv,hrep,hsub,_⟩:=qaX hr ho (hs.os id o ho).1 hy
  refine⟨n,i,j,y',h,true,fp,.inl rfl,λw' hm=>?_⟩
  have h2:=qS.mono (n:=n) (H':=H) (FH.le_refl H) (w':=w') (λk hk=>hm.block k ((hs.os id o ho).2 k (hsub k hk)).2.2 (λhh=>hh)) (show qS P true i j w H n y' cs fp from hrep)
  rw[qhD (n:=n) h2,<-hv]at h2
  exact h2
 ·cases h
theorem lookK_ok(hcfg:qu P cfg)(hC:qz C cfg){T:TypeId}{x q:Operand}{ok:Bool}{av bv:AV}(hs:qg P C s a w H Φ)(hd:qF cfg.nt dst=true)(hr:qh P C w H Φ s.obj av (a.eval x))(hr2:qh P C w H Φ s.obj bv (a.eval q))(h:lookK cfg s dst T av bv ok k=some r):
  ∃s',k s'=some r/\qah P C ⟨dst,.lookup T x q ok,ty,pos,after,guard⟩ a w s':=by
 unfold lookK at h
 replace h:=extOf_ok hs hr h
 obtain⟨n,i,j,y,h,own,fp,hown,hrep⟩:=h
 cases hc:jY i cfg.xkeys&&(decide (lk cfg.ty T=some (.ext false n i j))&&decide (lk cfg.ty j=some (valTy n)))with
 |false=>rw[hc]at h;cases h
 |true=>
 rw[hc,cond_true]at h
 simp only[Bool.and_eq_true,decide_eq_true_eq]at hc
 obtain⟨hi,hT,hj⟩:=hc
 replace h:=qns hr2 h
 obtain⟨u,hu,k1,k2,h⟩:=h
 have K:=hcfg.keys i hi
 have hty:=(hcfg.ty T _ hT).1
 have htj:=(hcfg.ty j _ hj).1
 match n,y,h,hrep,hty,htj,hown with
 |0,y,h,hrep,hty,htj,_=>
  replace h:=jL (α:=List (XK×XK)) (o:=y) h
  obtain⟨l,hl,h⟩:=h
  subst hl
  have hX:∀w',jM qV w w'->∃b,a.eval x = .map (some b)/\qeu P i jN w' b l:=by
   intro w' hm
   have h0:=hrep w' hm
   obtain⟨b,e,h1⟩:=h0
   refine⟨b,qed e,?_⟩
   cases own with
   |true=>exact h1.2
   |false=>
    obtain⟨_,c,hc,hF⟩:=h1
    exact hF.mapX (hs.hok.mod hm (λ_ hb=>hb.elim) b c hc)
  have hrun:∀w',jM qV w w'->(execOp a.eval ⟨dst,.lookup T x q true,ty,pos,after,guard⟩).run P w' = .ok (.value (.tuple #[jN ((qX l u).getD ((0:Int),(0:Int))),.bool (qX l u).isSome])) w'/\(execOp a.eval ⟨dst,.lookup T x q false,ty,pos,after,guard⟩).run P w' = .ok (.value (jN ((qX l u).getD ((0:Int),(0:Int))))) w':=by
   intro w' hm
   obtain⟨b,e,hb⟩:=hX w' hm
   obtain⟨g1,g2⟩:=hb.look K (hty.xmap rfl) (z0:=((0:Int),(0:Int))) (htj.zeroValue w') k1 k2
   exact⟨by simp[execOp,e,hu,g1],by simp[execOp,e,hu,g2]⟩
  cases ok with
  |true=>
   rw[cond_true]at h
   exact⟨_,h,qp hs hC hd (v:=.tuple #[jN ((qX l u).getD ((0:Int),(0:Int))),.bool (qX l u).isSome]) ⟨_,[.bool (qX l u).isSome],rfl,qh.tyK _ _ _ _ _,.bool (qX l u).isSome,[],rfl,qh.mk_bool _ _ _ _ _,rfl⟩ (λw' hm=>(hrun w' hm).1)⟩
  |false=>
   rw[cond_false]at h
   exact⟨_,h,qp hs hC hd (v:=jN ((qX l u).getD ((0:Int),(0:Int)))) (qh.tyK _ _ _ _ _) (λw' hm=>(hrun w' hm).2)⟩
 |1,y,h,hrep,hty,htj,hown=>
  obtain rfl:own=true:=hown.resolve_right (by decide)
  replace h:=jL (α:=List (XK×Int)) (o:=y) h
  obtain⟨l,hl,h⟩:=h
  subst hl
  have hrun:∀w',jM qV w w'->(execOp a.eval ⟨dst,.lookup T x q true,ty,pos,after,guard⟩).run P w' = .ok (.value (.tuple #[numV ((qX l u).getD (0:Int)),.bool (qX l u).isSome])) w'/\(execOp a.eval ⟨dst,.lookup T x q false,ty,pos,after,guard⟩).run P w' = .ok (.value (numV ((qX l u).getD (0:Int)))) w':=by
   intro w' hm
   obtain⟨b,e,_,hb⟩:=hrep w' hm
   replace e:=qed e
   obtain⟨g1,g2⟩:=hb.look K (hty.xmap rfl) (z0:=(0:Int)) (htj.zeroValue w') k1 k2
   exact⟨by simp[execOp,e,hu,g1],by simp[execOp,e,hu,g2]⟩
  cases ok with
  |true=>
   rw[cond_true]at h
   exact⟨_,h,qp hs hC hd (v:=.tuple #[numV ((qX l u).getD (0:Int)),.bool (qX l u).isSome]) ⟨_,[.bool (qX l u).isSome],rfl,qh.mk_int _ _ _ _ _ _,.bool (qX l u).isSome,[],rfl,qh.mk_bool _ _ _ _ _,rfl⟩ (λw' hm=>(hrun w' hm).1)⟩
  |false=>
   rw[cond_false]at h
   exact⟨_,h,qp hs hC hd (v:=numV ((qX l u).getD (0:Int))) (qh.mk_int _ _ _ _ _ _) (λw' hm=>(hrun w' hm).2)⟩
 |n+2,y,h,_,_,_,_=>cases h
theorem qmI{l:List (XK×XK)}{k0:Option R}{f:XK×XK->Option R}{u:XK×XK}(hu:u∈l)(h:qis l k0 f=some r):f u=some r:=by
 cases l with
 |nil=>cases hu
 |cons x l=>exact qeN h u hu
theorem qae{b:Bool}{x:Option R}(h:(bif b then x else none)=some r):b=true/\x=some r:=by
 cases b with
 |false=>cases h
 |true=>exact⟨rfl,h⟩
theorem qg.newExt(hs:qg P C s a w H Φ)(hcfg:qu P cfg)(hC:qz C cfg){d:Nat}(hd:d<cfg.nt){n i j:Nat}{y:qcM n}{v:Value}{w':World}{fp:List Nat}(hm:jM qV w w')(hnd:fp.Nodup)
  (hrep:qS P true i j w' H n y [v] fp) (hnew:∀b∈fp,H b=none/\(C.M0 b\/C.w0.heap.size<=b)/\b<w'.heap.size/\∀j o',j≠d->s.obj j=some o'->b∉(Φ j).fp):
  ∃Φ',qg P C ((s.newObj d true (.ext true n i j) y).set d (.view d [])) (a.put (some d) v) w' H Φ':=by
 have hlow:=hcfg.low hd
 have h1:=hs.newObj hm (hC.pin d (Nat.lt_trans hlow (by decide))) (φ:=⟨0,v,fp⟩) (qbb hlow) (row:=true) (τ:=.ext true n i j) (x:=y)
  ⟨rfl,hnd,rfl,[v],rfl,hrep⟩ hnew
 refine⟨_,h1.set (by rw[hC.nt];exact hd) ⟨⟨true,.ext true n i j,y⟩,⟨.ext true n i j,y⟩,?_,qH _ _,?_⟩⟩
 ·rw[St.newObj,St.obj_setObj,if_pos rfl]
 ·simp only[List.isEmpty_nil,Bool.and_self,qr]
theorem qg.fresh_blk(hs:qg P C s a w H Φ){d:Nat}{w':World}(hsz:w.heap.size<w'.heap.size):∀b∈[w.heap.size],H b=none/\(C.M0 b\/C.w0.heap.size<=b)/\b<w'.heap.size/\∀j o',j≠d->s.obj j=some o'->b∉(Φ j).fp:=by
 intro b hb
 rw[List.mem_singleton.1 hb]
 refine⟨?_,.inr hs.mod.size,hsz,λj o' _ hj hbj=>?_⟩
 ·cases hq:H w.heap.size with
  |none=>rfl
  |some c=>exact absurd (hs.hok.lt hq) (by omega)
 ·have:=((hs.os j o' hj).2 _ hbj).2.2
  omega
theorem qdb{τ:Ty}{x:τ.den}{p:List qq}{σ:Ty}{y:σ.den}{f:τ.den->Option R}(h:qaZ τ x p σ y f=some r):∃z,j1 τ x p σ y=some z/\f z=some r:=by
 rw[qar]at h
 exact Option.bind_eq_some_iff.1 h
theorem qfN{τ:Ty}{x:τ.den}{p:List qq}{f:(σ:Ty)->σ.den->Option R}(h:qa1 τ x p f=some r):∃y,qP τ x p=some y/\f y.1 y.2=some r:=by
 rw[jJ]at h
 exact Option.bind_eq_some_iff.1 h
theorem putK_ok(hcfg:qu P cfg)(hC:qz C cfg){T:TypeId}{m q u:Value}{av bv cv:AV}(hs:qg P C s a w H Φ)(hd:qF cfg.nt dst=true)(hr:qh P C w H Φ s.obj av m)(hr2:qh P C w H Φ s.obj bv q)(hr3:qh P C w H Φ s.obj cv u)(h:putK cfg s dst T av bv cv k=some r):
  ∃s' w',k s'=some r/\(Instr.mapUpdate T m q u).run P w = .ok () w'/\Sim P C s' (a.put dst undef) w':=by
 unfold putK at h
 split at h
 case h_2=>cases h
 rename_i id p
 split at h
 case h_2=>cases h
 rename_i o ho
 replace h:=qfN h
 obtain⟨⟨σ,y⟩,hy,h⟩:=h
 simp only at h
 split at h
 case h_2=>cases h
 rename_i n i j y
 replace h:=qae h
 obtain⟨hc,h⟩:=h
 simp only[Bool.and_eq_true,decide_eq_true_eq]at hc
 obtain⟨hi,hT⟩:=hc
 replace h:=qns hr2 h
 obtain⟨k0,rfl,k1,k2,h⟩:=h
 have K:=hcfg.keys i hi
 have hty:=(hcfg.ty T _ hT).1
 obtain⟨f,hrep,hnd,_,hch⟩:=qdm hs ho hy hr
 have hdC:qF C.nt dst=true:=by rw[hC.nt];exact hd
 match n,y,h,hrep,hty,hch,hy with
 |0,y,h,hrep,hty,hch,_=>
  replace h:=jL (α:=List (XK×XK)) (o:=y) h
  obtain⟨l,hl,h⟩:=h
  subst hl
  split at h
  case h_2=>cases h
  rename_i τ u0
  replace h:=jL h
  obtain⟨uu,hu,h⟩:=h
  obtain⟨e,hu⟩:=qf hu
  subst e
  subst hu
  obtain⟨_,hlen,h⟩:=qco h
  replace h:=qdb h
  obtain⟨z,hz,h⟩:=h
  obtain⟨_,cs,hv,c1,c2,f1,f2,e1,_,⟨h1,_⟩,⟨h2,_⟩⟩:=hr3
  have hu:u=jN uu:=by rw[hv,e1,h1,h2];rfl
  subst hu
  obtain⟨b,e,rfl,hX⟩:=hrep
  replace e:=qed e
  subst e
  obtain⟨w',hrun,hX',hm⟩:=hX.put K (hty.xmap rfl) k1 k2 hlen uu
  obtain⟨Φ',hs'⟩:=hch w' [b] (some (qaC l k0 uu):Option (List (XK×XK))) z (hm.mono (λk hk=>by rw[hk];simp)) ⟨b,rfl,rfl,hX'⟩ hnd (λk hk=>.inl hk) hz
  exact⟨_,w',h,hrun,H,Φ',hs'.setDst hdC (av:=.dead) trivial⟩
 |1,y,h,hrep,hty,hch,_=>
  replace h:=jL (α:=List (XK×Int)) (o:=y) h
  obtain⟨l,hl,h⟩:=h
  subst hl
  split at h
  case h_2=>cases h
  rename_i τ u0
  replace h:=jL h
  obtain⟨uu,hu,h⟩:=h
  obtain⟨e,hu⟩:=qf hu
  subst e
  subst hu
  obtain⟨_,hlen,h⟩:=qco h
  replace h:=qdb h
  obtain⟨z,hz,h⟩:=h
  obtain⟨_,cs,hv,h1,_⟩:=hr3
  have hu:u=numV uu:=by rw[hv,h1];rfl
  subst hu
  obtain⟨b,e,rfl,hX⟩:=hrep
  replace e:=qed e
  subst e
  obtain⟨w',hrun,hX',hm⟩:=hX.put K (hty.xmap rfl) k1 k2 hlen uu
  obtain⟨Φ',hs'⟩:=hch w' [b] (some (qaC l k0 uu):Option (List (XK×Int))) z (hm.mono (λk hk=>by rw[hk];simp)) ⟨b,rfl,rfl,hX'⟩ hnd (λk hk=>.inl hk) hz
  exact⟨_,w',h,hrun,H,Φ',hs'.setDst hdC (av:=.dead) trivial⟩
 |n+2,y,h,_,_,_,_=>cases h
theorem qga(hcfg:qu P cfg)(hC:qz C cfg){T:TypeId}{x i v:Operand}(hs:qg P C s a w H Φ)(hd:qF cfg.nt dst=true){op:Op}(hop:op = .mapUpdate T x i v\/op = .insert T x i v)(h:qG cfg ⟨dst,op,ty,pos,after,guard⟩ s k=some r):
  ∃s',k s'=some r/\qaG P C ⟨dst,op,ty,pos,after,guard⟩ a w s':=by
 have h:(match qI s none x,qI s none i,qI s none v with
  |some a,some b,some c=>putK cfg s dst T a b c k
  |_,_,_=>none)=some r:=by rcases hop with rfl|rfl<;>exact h
 split at h
 case h_2=>cases h
 rename_i av bv cv h1 h2 h3
 obtain⟨s',w',h,hrun,hsim⟩:=putK_ok hcfg hC hs hd (qk hs qv h1) (qk hs qv h2) (qk hs qv h3) h
 refine⟨s',h,?_⟩
 unfold qaG
 have e:(execOp a.eval ⟨dst,op,ty,pos,after,guard⟩).run P w = .ok .skip w':=by
  rcases hop with rfl|rfl<;>simp[execOp,hrun]
 rw[e]
 exact hsim
theorem qn1(hcfg:qu P cfg)(hC:qz C cfg){T:TypeId}{x i:Operand}{ok:Bool}(hs:qg P C s a w H Φ)(hd:qF cfg.nt dst=true)(h:qG cfg ⟨dst,.lookup T x i ok,ty,pos,after,guard⟩ s k=some r):
  ∃s',k s'=some r/\qah P C ⟨dst,.lookup T x i ok,ty,pos,after,guard⟩ a w s':=by
 simp only[qG]at h
 split at h
 case h_2=>cases h
 rename_i av bv h1 h2
 exact lookK_ok hcfg hC hs hd (qk hs qv h1) (qk hs qv h2) h
theorem qmA(hcfg:qu P cfg)(hC:qz C cfg){T:TypeId}{z:Option Operand}(hs:qg P C s a w H Φ)(hd:qF cfg.nt dst=true)(h:qG cfg ⟨dst,.makeMap T z,ty,pos,after,guard⟩ s k=some r):
  ∃s',k s'=some r/\qaG P C ⟨dst,.makeMap T z,ty,pos,after,guard⟩ a w s':=by
 cases z with
 |some z=>cases h
 |none=>
 have h:qix cfg s dst T k=some r:=h
 unfold qix at h
 have hrun:(execOp a.eval ⟨dst,.makeMap T none,ty,pos,after,guard⟩).run P w = .ok (.value (.map (some w.heap.size))) (w.alloc (.map #[] 0)):=by simp[execOp,RowKit.run_makeMap]
 have hm:=qb4 w (.map #[] 0)
 have hfr:=λd=>hs.fresh_blk (d:=d) (w':=w.alloc (.map #[] 0)) (by simp)
 split at h
 ·rename_i d i j hT _
  replace h:=qae h
  obtain⟨_,h⟩:=h
  obtain⟨Φ',hs'⟩:=hs.newExt hcfg hC (Eq.mp Nat.blt_eq hd) (n:=0) (i:=i) (j:=j) (y:=(some []:Option (List (XK×XK)))) (v:=.map (some w.heap.size)) (fp:=[w.heap.size]) hm (by simp)
   ⟨w.heap.size,rfl,rfl,.map [],World.ownsMap_made _ _ _ _,qfw.empty⟩ (hfr d)
  exact⟨_,h,qad hrun ⟨H,Φ',hs'⟩⟩
 ·rename_i d i j hT _
  replace h:=qae h
  obtain⟨_,h⟩:=h
  obtain⟨Φ',hs'⟩:=hs.newExt hcfg hC (Eq.mp Nat.blt_eq hd) (n:=1) (i:=i) (j:=j) (y:=(some []:Option (List (XK×Int)))) (v:=.map (some w.heap.size)) (fp:=[w.heap.size]) hm (by simp)
   ⟨w.heap.size,rfl,rfl,.map [],World.ownsMap_made _ _ _ _,qfw.empty⟩ (hfr d)
  exact⟨_,h,qad hrun ⟨H,Φ',hs'⟩⟩
 ·cases h
theorem qg.frzMap(hs:qg P C s a w H Φ)(x:Operand):∃H',qg P C (frzMap s x) a w H' Φ:=by
 unfold Go.Vi.frzMap
 split
 ·rename_i id _ _
  obtain⟨H',_,_,_,h⟩:=hs.freeze id
  exact⟨H',h⟩
 ·exact⟨H,hs⟩
theorem op_range(hcfg:qu P cfg)(hC:qz C cfg){T:TypeId}{x:Operand}(hs0:qg P C s a w H Φ)(hd:qF cfg.nt dst=true)(h:qG cfg ⟨dst,.range T x,ty,pos,after,guard⟩ s k=some r):
  ∃s',k s'=some r/\qaG P C ⟨dst,.range T x,ty,pos,after,guard⟩ a w s':=by
 have h:qki cfg (frzMap s x) dst T x k=some r:=h
 obtain⟨H2,hs⟩:=hs0.frzMap x
 generalize frzMap s x=s at h hs
 unfold qki at h
 split at h
 case h_2=>cases h
 rename_i d i j y he _
 replace h:=qae h
 obtain⟨hc,h⟩:=h
 simp only[Bool.and_eq_true,decide_eq_true_eq]at hc
 obtain⟨hi,hT⟩:=hc
 have K:=hcfg.keys i hi
 have hty:=(hcfg.ty T _ hT).1
 replace h:=jL (α:=List (XK×XK)) (o:=y) h
 obtain⟨l,hl,h⟩:=h
 subst hl
 obtain⟨_,cs,hv,b,e,_,c,hc,es,n,D,rfl,hF,hsz,hD,hrel⟩:=qk hs qv he
 have hv:a.eval x = .map (some b):=by rw[hv,e];rfl
 have hb:w.heap[b]? = some (.map es n):=hs.hok b _ hc
 have hrun:=run_range_map w T i j b es n (hty.xmap rfl) hb
 have hm:=qb4 w (.mapIter (some b) n #[] n)
 obtain⟨Φ',hs'⟩:=hs.newExt hcfg hC (Eq.mp Nat.blt_eq hd) (n:=3) (i:=i) (j:=j) (y:=(l,none)) (v:=.pointer (some ⟨w.heap.size,0,none⟩)) (fp:=[w.heap.size]) hm (by simp)
  ⟨w.heap.size,rfl,rfl,b,es,n,n,#[],n,D,Maps.has D,l,hc,hF,hD,hrel,heap_alloc_new w _,hF.stamped.1,by
   intro u hu
   obtain⟨z,hz⟩:=hF.reads u hu
   have:Maps.has D (WideElems.rg P i qer u).1=true:=by
    rw[hD]
    exact List.any_eq_true.2 ⟨WideElems.rg P i qer u,mem_sorted.2 (List.mem_map.2 ⟨u,hu,rfl⟩),WideAt.sameKey_self (by rw[WideElems.rg_of hz];exact K.keyed.key (WideElems.rd_key hz))⟩
   rw[this]
   simp,by
   intro kl hkl
   rw[hD]at hkl
   obtain⟨p,hp,hpk⟩:=List.any_eq_true.1 hkl
   obtain⟨u,hu,rfl⟩:=List.mem_map.1 (mem_sorted.1 hp)
   exact⟨u,hu,WideAt.sameKey_eq hpk⟩,Nat.le_refl _,Nat.le_refl _,λq kl hq=>by rw[hrel.has q kl hq];exact qiB,λu hu=>qfH hrel.nd hu,λu hu=>by cases hu⟩ (hs.fresh_blk (by simp))
 exact⟨_,h,qad (by simp[execOp,hv,hrun]) ⟨H2,Φ',hs'⟩⟩
theorem iter_at{id i j:Nat}{y:List (XK×XK)×Option (XK×XK)}{v:Value}(hs:qg P C s a w H Φ)(ho:s.obj id=some ⟨true,.ext true 3 i j,y⟩)(hr:qh P C w H Φ s.obj (.view id []) v):∃r,v = .pointer (some ⟨r,0,none⟩)/\IterX P i w H r y:=by
 obtain⟨cs,fp,hv,hrep,_,_⟩:=qaX hr ho (hs.os id _ ho).1 (qH _ _)
 obtain⟨r,e,_,hI⟩:=hrep
 exact⟨r,by rw[hv,e];rfl,hI⟩
theorem op_entry(hC:qz C cfg){x:Operand}(hs:qg P C s a w H Φ)(hd:qF cfg.nt dst=true)(h:qG cfg ⟨dst,.entry x,ty,pos,after,guard⟩ s k=some r):
  ∃s',k s'=some r/\qah P C ⟨dst,.entry x,ty,pos,after,guard⟩ a w s':=by
 have h:qkM s dst x k=some r:=h
 unfold qkM at h
 split at h
 case h_2=>cases h
 rename_i id he
 split at h
 case h_2=>cases h
 rename_i i j y ho
 replace h:=jL h
 obtain⟨u,hu,h⟩:=h
 obtain⟨rr,hv,b,es,n,since,seen,c0,D,left,kv,q1,q2,q3,q4,q5,q6,q7,q8,q9,q10,q11,q12,q13⟩:=iter_at hs ho (qk hs qv he)
 obtain⟨en,seen0,rfl,rfl,hen,hk1,hk2⟩:=q13 u hu
 refine⟨_,h,qp hs hC hd (v:=.tuple #[jN u.1,jN u.2]) ⟨_,[jN u.2],rfl,qh.tyK _ _ _ _ _,_,[],rfl,qh.tyK _ _ _ _ _,rfl⟩ (λw' hm=>?_)⟩
 have hb:w.heap[b]? = some (.map es c0):=hs.hok b _ q1
 have e1:w'.heap[b]? = some (.map es c0):=(hm.block b (Array.getElem?_eq_some_iff.1 hb).1 (λhh=>hh)).trans hb
 have e2:w'.heap[rr]? = some (.mapIter (some b) since (seen0.push en.born) c0):=(hm.block rr (Array.getElem?_eq_some_iff.1 q5).1 (λhh=>hh)).trans q5
 have:=run_entry_at (P:=P) w' rr b since seen0 es c0 en e2 e1 hen ((MapKept.stamped_iff es c0).1 q2.stamped).2.1
 rw[hk1,hk2]at this
 simp[execOp,hv,this]
theorem op_next(hcfg:qu P cfg)(hC:qz C cfg){x:Operand}{z:Bool}(hs:qg P C s a w H Φ)(hd:qF cfg.nt dst=true)(h:qG cfg ⟨dst,.next x z,ty,pos,after,guard⟩ s k=some r):
  ∃s',k s'=some r/\qaG P C ⟨dst,.next x z,ty,pos,after,guard⟩ a w s':=by
 cases z with
 |true=>cases h
 |false=>
 have h:qmH cfg s dst x k=some r:=h
 unfold qmH at h
 split at h
 case h_2=>cases h
 rename_i id he
 split at h
 case h_2=>cases h
 rename_i i j y ho
 replace h:=qae h
 obtain⟨hi,h⟩:=h
 have K:=hcfg.keys i hi
 have hdC:qF C.nt dst=true:=by rw[hC.nt];exact hd
 have hr:=qk hs qv he
 obtain⟨f,hrep,hnd,_,hch⟩:=qdm hs ho (qH _ _) hr
 obtain⟨rr,e,rfl,b,es,n,since,seen,c0,D,left,kv,q1,q2,q3,q4,q5,q6,q7,q8,q9,q10,q11,q12,q13⟩:=hrep
 replace e:=qed e
 have hb:w.heap[b]? = some (.map es n):=hs.hok b _ q1
 have hne:b≠rr:=by
  rintro rfl
  rw[hb]at q5
  cases q5
 change (let z:List (XK×XK)×Option (XK×XK):=y;qis z.1 _ _)=some r at h
 simp only at h
 obtain⟨lf,cur⟩:=(y:List (XK×XK)×Option (XK×XK))
 rcases run_next_at (P:=P) w ty rr b since c0 seen es n q5 hb q6 q9 with⟨h0,hrun⟩|⟨en,hen,w1,hal,hrun⟩
 ·have hnil:lf=[]:=by
   match lf,q11 with
   |[],_=>rfl
   |u::l,q11=>
    have hmem:=qiB.1 (by rw[q12 u List.mem_cons_self];rfl:(qX kv u.1).isSome=true)
    obtain⟨kl,hkl⟩:=q4.kof u.1 hmem
    have hl:=(q11 u.1 kl hkl).2 (by simp)
    obtain⟨yy,hyy,rfl⟩:=q8 kl hl
    rw[q7 yy hyy,all_seen es seen h0 yy hyy]at hl
    cases hl
  subst hnil
  exact⟨_,h,qad (w':=w) (v:=.tuple #[.bool false]) (by simp[execOp,e,hrun]) ⟨H,Φ,hs.setDst hdC (av:=.cons (.val .bool false) .nil) (v:=.tuple #[.bool false]) ⟨.bool false,[],rfl,qh.mk_bool _ _ _ _ _,rfl⟩⟩⟩
 ·obtain⟨hem,hes⟩:=mem_left hen
  obtain⟨y0,hy0⟩:=q2.reads en hem
  obtain⟨z0,hz,hzd⟩:=WideElems.rd_val hy0
  have hkey:=WideElems.rd_key hy0
  have hrg:(WideElems.rg P i qer en).1=y0.1:=by rw[WideElems.rg_of hy0]
  have hleft:left y0.1=true:=by rw[<-hrg,q7 en hem,hes];rfl
  have hhas:Maps.has D y0.1=true:=by
   rw[q3]
   exact List.any_eq_true.2 ⟨WideElems.rg P i qer en,mem_sorted.2 (List.mem_map.2 ⟨en,hem,rfl⟩),by rw[hrg];exact WideAt.sameKey_self (K.keyed.key hkey)⟩
  obtain⟨q,hq1,hq2⟩:=q4.keys y0.1 hhas
  have hkq:en.key=jN q:=K.keyed.inj hkey hq2
  have hlk:=(q11 q y0.1 hq2).1 hleft
  obtain⟨u,hu,rfl⟩:=List.mem_map.1 hlk
  have hval:en.val=jN u.2:=by
   have h1:=q4.val u.1 y0.1 .nil hq2
   rw[q12 u hu]at h1
   rw[q3,(WideShapes.atKey_sorted (es.toList.map (WideElems.rg P i qer)) (Maps.fit_rising K.keyed q2) y0.1 (K.keyed.key hkey)).2 (WideElems.rg P i qer en) (List.mem_map.2 ⟨en,hem,rfl⟩) hrg,WideElems.rg_of hy0,hzd]at h1
   unfold qer at hz
   injection hz with hz
   rw[<-hz]at h1
   injection h1
  have h':k (((s.killIf (AV.stale id true)).setObj id (some ⟨true,.ext true 3 i j,(qaP u.1 lf,some u)⟩)).setDst dst (.cons (.val .bool true) (.cons (.val tyK u.1) (.cons (.val tyK u.2) .nil))))=some r:=by
   exact qmI hu h
  have hr1:w1.heap[rr]? = some (.mapIter (some b) since seen c0):=by rcases hal with rfl|rfl<;>exact q5
  have hset:=MapKept.heap_set (o':=.mapIter (some b) since (seen.push en.born) n) hr1
  have hmod:jM (· ∈[rr]) w (ChangeMaps.setBlock w1 rr (.mapIter (some b) since (seen.push en.born) n)):=by
   rcases hal with rfl|rfl<;>exact⟨rfl,rfl,rfl,by simp[ChangeMaps.setBlock],λk _ hk=>hset.2 k (λe1=>hk (by simp[e1]))⟩
  obtain⟨Φ',hs'⟩:=hch _ [rr] (qaP u.1 lf,some u) (qaP u.1 lf,some u) hmod ⟨rr,by rw[e],rfl,b,es,n,since,seen.push en.born,n,D,(λx=>left x && !x.sameKey y0.1),kv,q1,q2,q3,q4,hset.1,q6,λyy hyy=>by
    show(left (WideElems.rg P i qer yy).1 && !(WideElems.rg P i qer yy).1.sameKey y0.1)=_
    rw[q7 yy hyy,<-hrg,same_iff_born K.keyed q2 hyy hem,contains_push]
    cases seen.contains yy.born<;>cases(yy.born==en.born)<;>rfl,λkl hkl=>q8 kl (by simp at hkl;exact hkl.1),q10,q10,λq' kl hq'=>by
    rw[Bool.and_eq_true,q11 q' kl hq',List.mem_map,List.mem_map]
    constructor
    ·rintro⟨⟨y1,hy1,rfl⟩,hs2⟩
     refine⟨y1,qbi.2 ⟨hy1,?_⟩,rfl⟩
     intro e2
     rw[e2]at hq'
     rw[hq2]at hq'
     cases hq'
     rw[WideAt.sameKey_self (K.keyed.key hkey)]at hs2
     cases hs2
    ·rintro⟨y1,hy1,rfl⟩
     obtain⟨h1,h2⟩:=qbi.1 hy1
     refine⟨⟨y1,h1,rfl⟩,?_⟩
     rw[Maps.sameKey_ne (qmQ K hq' hq2 h2)]
     rfl,λy1 hy1=>q12 y1 (qbi.1 hy1).1,λy1 hy1=>by
    cases hy1
    exact⟨en,seen,rfl,rfl,hem,hkq,hval⟩⟩ (by simp) (λk hk=>.inl hk) ((qh5 (.ext true 3 i j) _ _ _).trans (dif_pos rfl))
  refine⟨_,h',qad (v:=.tuple #[.bool true,jN u.1,jN u.2]) (by rw[hkq,hval]at hrun;simp[execOp,e,hrun]) ⟨H,Φ',hs'.setDst hdC ⟨.bool true,[jN u.1,jN u.2],rfl,qh.mk_bool _ _ _ _ _,_,[jN u.2],rfl,qh.tyK _ _ _ _ _,_,[],rfl,qh.tyK _ _ _ _ _,rfl⟩⟩⟩
theorem qlG{o:Oper}{f:Nat}{args:Array Value}{s':St}(hrun:(execOp a.eval o).run P w = .ok (.enter f args) w)(h:Calls P f args w λe w''=>∃v,e = .returned v/\Sim P C s' (a.put o.dst v) w''):qaG P C o a w s':=by
 unfold qaG
 rw[hrun]
 exact h
theorem qgM(hcfg:qu P cfg)(hC:qz C cfg){T:TypeId}{x:Operand}(hs:qg P C s a w H Φ)(hd:qF cfg.nt dst=true)(h:qG cfg ⟨dst,.makeInterface T x,ty,pos,after,guard⟩ s k=some r):
  ∃s',k s'=some r/\qaG P C ⟨dst,.makeInterface T x,ty,pos,after,guard⟩ a w s':=by
 replace h:wrapK cfg s dst T x k=some r:=h
 unfold wrapK at h
 have hrun:∀q,cfg.xque=some q->(T=q.T\/T=q.et)->(execOp a.eval ⟨dst,.makeInterface T x,ty,pos,after,guard⟩).run P w = .ok (.value (.iface T (a.eval x))) w:=by
  intro q hq hT
  have hc:P.concrete T=true:=by
   rcases hT with rfl|rfl
   ·exact(hcfg.que q hq).wrap.1
   ·exact(hcfg.que q hq).wrap.2
  simp[execOp,run_makeInterface w T (a.eval x) hc]
 split at h
 ·rename_i q τ y hq he
  replace h:=qae h
  obtain⟨hT,h⟩:=h
  obtain rfl:=Nat.eq_of_beq_eq_true hT
  replace h:=jL (α:=XK×XK) h
  obtain⟨y,hy,h⟩:=h
  obtain⟨e,hy⟩:=qf hy
  subst e
  subst hy
  obtain⟨_,cs,hv,hrep⟩:=qk hs qv he
  obtain⟨rfl,_⟩:=qjr (y:=y) hrep
  have hv:a.eval x=qcO y:=hv
  refine⟨_,h,qad (hrun q hq (.inr rfl)) ⟨H,Φ,hs.setDst (by rw[hC.nt];exact hd) ⟨rfl,[.iface q.et (qcO y)],by rw[hv];rfl,rfl,rfl⟩⟩⟩
 ·rename_i d q id hq he
  split at h
  case h_2=>cases h
  rename_i o ho
  replace h:=qae h
  obtain⟨hc,h⟩:=h
  simp only[Bool.and_eq_true,Bool.not_eq_true']at hc
  obtain⟨hrow,hT⟩:=hc
  obtain rfl:=Nat.eq_of_beq_eq_true hT
  replace h:=jL (α:=List (XK×XK)) h
  obtain⟨l,hl,h⟩:=h
  obtain⟨row,τ,y⟩:=o
  simp only at hrow hl
  subst hrow
  obtain⟨e,hl⟩:=qf hl
  subst e
  subst hl
  obtain⟨o',y',b,off,q1,q2,q3,q4,hv⟩:=qk hs qv he
  rw[ho]at q1
  cases q1
  obtain⟨rfl,rfl⟩:=jO.det _ (show jO w (.list true q.et tyS) (Φ id).b 0 [] b off from q4) (j6 w (.list true q.et tyS) (Φ id).b 0)
  obtain⟨⟨_,hnd,blk,tt,fp',hh,⟨hdr,xs,fp2,e1,e2,how,hch⟩,hfp⟩,hos2⟩:=hs.os id _ ho
  obtain⟨rfl,rfl⟩:=qfr hch
  have hblk:blk = #[hdr]:=by rw[<-Array.toArray_toList (xs:=blk),e1]
  subst hblk
  have hfp2:(Φ id).fp=(Φ id).b::hdr.ownBlock.toList:=by rw[hfp,e2,List.append_nil]
  have hs1:=hs.remove id
  have hob:∀j o',((s.kill id).setObj id none).obj j=some o'->s.obj j=some o'/\j≠id:=by
   intro j o' hj
   rw[St.obj_setObj]at hj
   split at hj
   ·cases hj
   ·rename_i hne;exact⟨hj,λe=>hne e.symm⟩
  obtain⟨Φ',hs'⟩:=hs1.newExt hcfg hC (Eq.mp Nat.blt_eq hd) (n:=4) (i:=q.T) (j:=q.et) (y:=(some l:Option (List (XK×XK)))) (v:=.iface q.T (.pointer (some ⟨(Φ id).b,0,none⟩))) (fp:=(Φ id).fp) (jM.refl _ _) hnd
   ⟨(Φ id).b,tt,hdr,rfl,hfp2,hh,how⟩ (λk hk=>⟨(hos2 k hk).1,(hos2 k hk).2.1,(hos2 k hk).2.2,λj o' _ hj=>hs.disj id j _ o' (λe=>(hob j o' hj).2 e.symm) ho (hob j o' hj).1 k hk⟩)
  exact⟨_,h,qad (by rw[hrun q hq (.inl rfl),hv]) ⟨H,Φ',hs'⟩⟩
 ·cases h
theorem qfl(hcfg:qu P cfg)(hC:qz C cfg){x:Operand}{xT T:TypeId}{z:Bool}(hs:qg P C s a w H Φ)(hd:qF cfg.nt dst=true)(h:qG cfg ⟨dst,.typeAssert x xT T z,ty,pos,after,guard⟩ s k=some r):
  ∃s',k s'=some r/\qah P C ⟨dst,.typeAssert x xT T z,ty,pos,after,guard⟩ a w s':=by
 cases z with
 |true=>cases h
 |false=>
 replace h:qkT cfg s dst x T k=some r:=h
 unfold qkT at h
 split at h
 case h_2=>cases h
 rename_i q i j y hq he
 replace h:=qae h
 obtain⟨hc,h⟩:=h
 rw[Bool.and_eq_true]at hc
 obtain rfl:=Nat.eq_of_beq_eq_true hc.1
 obtain rfl:=Nat.eq_of_beq_eq_true hc.2
 obtain⟨_,cs,hv,e,_⟩:=qk hs qv he
 have hv:a.eval x = .iface q.et (qcO (y:XK×XK)):=by rw[hv,e];rfl
 exact⟨_,h,qp hs hC hd (v:=qcO (y:XK×XK)) (qh.tyS _ _ _ _ _) (λw' _=>by simp[execOp,hv,(hcfg.que q hq).asrt])⟩
theorem qfD{av:AV}{f:XQ->(id:Nat)->(p:List qq)->List (XK×XK)->Option R}(h:qlk cfg s av f=some r):
  ∃q id p o l,cfg.xque=some q/\av = .view id p/\s.obj id=some o/\qP o.τ o.x p=some ⟨.ext true 4 q.T q.et,(some l:Option (List (XK×XK)))⟩/\f q id p l=some r:=by
 unfold qlk at h
 split at h
 case h_2=>cases h
 rename_i q id p hq
 split at h
 case h_2=>cases h
 rename_i o ho
 cases hc:o.row&&p.isEmpty with
 |true=>rw[hc]at h;cases h
 |false=>
 rw[hc,_root_.cond_false]at h
 replace h:=qfN h
 obtain⟨⟨σ,y⟩,hy,h⟩:=h
 simp only at h
 replace h:=jL (α:=Option (List (XK×XK))) h
 obtain⟨y2,hy2,h⟩:=h
 obtain⟨e,hy2⟩:=qf hy2
 subst e
 subst hy2
 replace h:=jL h
 obtain⟨l,hl,h⟩:=h
 subst hl
 exact⟨q,id,p,o,l,hq,rfl,ho,hy,h⟩
theorem qn0(hcfg:qu P cfg)(hC:qz C cfg){x:Operand}{name:String}{c:Call}(hc:c.callee = .invoke x name)(hs:qg P C s a w H Φ)(hd:qF cfg.nt dst=true)(h:qG cfg ⟨dst,.call c,ty,pos,after,guard⟩ s k=some r):
  ∃s',k s'=some r/\qaG P C ⟨dst,.call c,ty,pos,after,guard⟩ a w s':=by
 obtain⟨cal,ops,ats⟩:=c
 simp only at hc
 subst hc
 have hname:name = "Len" :=by
  refine Classical.byContradiction λhname=>?_
  simp only[qG]at h
  split at h
  all_goals first
   |(rename_i heq;injection heq with _ e;exact hname e)
   |(rename_i heq;injection heq;done)
   |(rename_i heq _;injection heq;done)
   |(cases h;done)
   |contradiction
 subst hname
 replace h:(bif ops.toList.isEmpty then qkk cfg s dst x k else none)=some r:=h
 replace h:=qae h
 obtain⟨hemp,h⟩:=h
 unfold qkk at h
 split at h
 case h_2=>cases h
 rename_i av he
 replace h:=qfD h
 obtain⟨q,id,p,o,l,hq,rfl,ho,hy,h⟩:=h
 obtain⟨f,hrep,_,_,_⟩:=qdm hs ho hy (qk hs qv he)
 have hQ:qbZ q.T q.et w l [a.eval x] f:=hrep
 obtain⟨g,args,hrun,hcalls⟩:=(hcfg.que q hq).len w l _ f hQ
 have has:ops = #[]:=by
  have:ops.toList=[]:=List.isEmpty_iff.1 hemp
  rw[<-Array.toArray_toList (xs:=ops),this]
 subst has
 refine⟨_,h,?_⟩
 have e:(execOp a.eval ⟨dst,.call ⟨.invoke x "Len",#[],ats⟩,ty,pos,after,guard⟩).run P w = .ok (.enter g args) w:=by
  simp[execOp,resolve,invoke,hrun]
 refine qlG e (hcalls.mono ?_)
 rintro ev w' ⟨rfl,hm⟩
 exact⟨_,rfl,H,Φ,(hs.grow hm).setDst (by rw[hC.nt];exact hd) (qh.mk_int _ _ _ _ _ _)⟩
theorem qmt(hcfg:qu P cfg)(hC:qz C cfg){f:Nat}{l:List AV}{vs:List Value}(hs:qg P C s a w H Φ)(hd:qF cfg.nt dst=true)(hrel:qaa (qh P C w H Φ s.obj) l vs)(h:qil cfg s dst f l k=some r):
  qW P f/\∃s',k s'=some r/\Calls P f vs.toArray w λe w''=>∃v,e = .returned v/\Sim P C s' (a.put dst v) w'':=by
 unfold qil at h
 have hdC:qF C.nt dst=true:=by rw[hC.nt];exact hd
 split at h
 ·rename_i q0 av hq0
  match vs,hrel with
  |[v],hrel=>
  replace h:=qae h
  obtain⟨hf,h⟩:=h
  obtain rfl:=Nat.eq_of_beq_eq_true hf
  replace h:=qfD h
  obtain⟨q,id,p,o,l,hq,rfl,ho,hy,h⟩:=h
  rw[hq0]at hq
  cases hq
  replace h:=jL h
  obtain⟨⟨x,l'⟩,hpop,h⟩:=h
  simp only[qkj,ho]at h
  replace h:=qdb h
  obtain⟨z,hz,h⟩:=h
  obtain⟨f,hrep,hnd,_,hch⟩:=qdm hs ho hy hrel.1
  have hQ:qbZ q0.T q0.et w l [v] f:=hrep
  refine⟨(hcfg.que q0 hq0).callable.1,_,h,((hcfg.que q0 hq0).pop w l v f x l' hQ hnd hpop).mono ?_⟩
  rintro e w' ⟨rfl,f',hm,hQ',hnd',hf'⟩
  obtain⟨Φ',hs'⟩:=hch w' f' (some l':Option (List (XK×XK))) z hm hQ' hnd' hf' hz
  exact⟨_,rfl,H,Φ',hs'.setDst hdC ⟨rfl,[.iface q0.et (qcO x)],rfl,rfl,rfl⟩⟩
  |[],hrel=>exact hrel.elim
  |_::_::_,hrel=>exact hrel.2.elim
 ·rename_i q0 av bv hq0
  match vs,hrel with
  |[v,u],hrel=>
  replace h:=qae h
  obtain⟨hf,h⟩:=h
  obtain rfl:=Nat.eq_of_beq_eq_true hf
  replace h:=qfD h
  obtain⟨q,id,p,o,l,hq,rfl,ho,hy,h⟩:=h
  rw[hq0]at hq
  cases hq
  split at h
  case h_2=>cases h
  rename_i τ y
  replace h:=jL (α:=XK×XK) h
  obtain⟨y2,hy2,h⟩:=h
  obtain⟨e,hy2⟩:=qf hy2
  subst e
  subst hy2
  replace h:=jL h
  obtain⟨l',hpush,h⟩:=h
  simp only[qkj,ho]at h
  replace h:=qdb h
  obtain⟨z,hz,h⟩:=h
  obtain⟨f,hrep,hnd,_,hch⟩:=qdm hs ho hy hrel.1
  have hQ:qbZ q0.T q0.et w l [v] f:=hrep
  obtain⟨_,cs,hu,e,_⟩:=hrel.2.1
  have hu:u = .iface q0.et (qcO y2):=by rw[hu,e];rfl
  subst hu
  refine⟨(hcfg.que q0 hq0).callable.2,_,h,((hcfg.que q0 hq0).push w l v f y2 l' hQ hnd hpush).mono ?_⟩
  rintro e w' ⟨rfl,f',hm,hQ',hnd',hf'⟩
  obtain⟨Φ',hs'⟩:=hch w' f' (some l':Option (List (XK×XK))) z hm hQ' hnd' hf' hz
  exact⟨_,rfl,H,Φ',hs'.setDst hdC rfl⟩
  |[],hrel=>exact hrel.elim
  |[_],hrel=>exact hrel.2.elim
  |_::_::_::_,hrel=>exact hrel.2.2.elim
 ·cases h
theorem qla(hcfg:qu P cfg)(hC:qz C cfg){q:XS}(hq:cfg.xsort=some q){f:Nat}{l:List AV}{vs:List Value}(hs:qg P C s a w H Φ)(hd:qF cfg.nt dst=true)(hrel:qaa (qh P C w H Φ s.obj) l vs)(h:qgG cfg s dst q f l k=some r):
  qW P f/\∃s',k s'=some r/\Calls P f vs.toArray w λe w''=>∃v,e = .returned v/\Sim P C s' (a.put dst v) w'':=by
 obtain⟨hcal,hsort⟩:=hcfg.sorts q hq
 unfold qgG at h
 split at h
 case h_2=>cases h
 rename_i a0 g τ x
 replace h:=qae h
 obtain⟨hf,h⟩:=h
 rw[Bool.and_eq_true]at hf
 obtain⟨hf,hg⟩:=hf
 obtain rfl:=Nat.eq_of_beq_eq_true hf
 obtain rfl:=Nat.eq_of_beq_eq_true hg
 replace h:=jL h
 obtain⟨x2,hx2,h⟩:=h
 match vs,hrel with
 |[v,u],hrel=>
  obtain⟨hr1,⟨us,cs,hu,hr2,hr3⟩,_⟩:=hrel
  have hus:us = #[]:=by have:Value.tuple us = .tuple #[]:=hr2;injection this
  obtain⟨u1,u2,e1,⟨_,b,o,blk,e2,hb,hrep⟩,e3⟩:=hr3
  have hu2:u2=[]:=by
   have:Value.tuple u2.toArray = .tuple #[]:=e3
   injection this with this
   exact List.toArray_inj this
  have hcs:cs = #[.pointer (some ⟨b,o,none⟩)]:=by
   rw[hu2,e2]at e1
   injection e1
  subst hu hus hcs
  obtain⟨e,hx2⟩:=qf hx2
  subst e
  subst hx2
  obtain⟨s',hk,hcalls⟩:=qjZ hcfg hC (X:=λQ=>Calls P q.f #[v,.func (.func q.g) #[] #[.pointer (some ⟨b,o,none⟩)]] w Q) (λh hm=>h.mono hm) hs hd (l:=[a0]) (vs:=[v]) ⟨hr1,trivial⟩ (λd y hy H2 Φs hle hok ha hn hf=>by
   obtain⟨v',vs',φ,Φs',e4,rfl,e5,hobj,e6⟩:=ha
   obtain⟨rfl,rfl⟩:v=v'/\vs'=[]:=by
    injection e4 with e7 e8
    exact⟨e7,e8.symm⟩
   obtain⟨_,rfl⟩:[]=([]:List Value)/\Φs'=[]:=⟨rfl,e6.2⟩
   have hfp:qd [φ]=φ.fp:=by simp[qd]
   rw[hfp]at hn hf
   obtain⟨l2,hl2,rfl⟩:=Option.map_eq_some_iff.1 hy
   subst e5
   refine(hsort x2 d.1 l2 hl2 w H2 b o blk φ hok (hle _ _ hb) (qm.mono q.τ hle (by simp) hrep) hobj hn hf).mono ?_
   rintro e w' ⟨rfl,hm,ho⟩
   refine⟨[],H2,[φ],[],rfl,by rw[hfp];exact hm,FH.le_refl _,hok.mod hm (λc hc=>(hf c hc).1),λ_ _ h=>.inl h,⟨rfl,rfl⟩,⟨_,[],φ,[],rfl,rfl,rfl,ho,rfl,rfl⟩,by rw[show([]:List qB)++[φ]=[φ]from rfl,hfp];exact hn,λc hc=>?_⟩
   rw[show([]:List qB)++[φ]=[φ]from rfl,hfp]at hc
   rw[hfp]
   exact⟨(hf c hc).1,.inl hc,Nat.lt_of_lt_of_le (hf c hc).2 hm.size⟩) h
  exact⟨hcal,s',hk,hcalls⟩
 |[],hrel=>exact hrel.elim
 |[_],hrel=>exact hrel.2.elim
 |_::_::_::_,hrel=>exact hrel.2.2.elim
theorem qmF(hcfg:qu P cfg)(hC:qz C cfg){c:Call}(hc:c.callee = .builtin .append){tid:Nat}(hX:qhS cfg c=some tid)(hs:qg P C s a w H Φ)(hd:qF cfg.nt dst=true)(h:qG cfg ⟨dst,.call c,ty,pos,after,guard⟩ s k=some r):
  ∃s',k s'=some r/\qaG P C ⟨dst,.call c,ty,pos,after,guard⟩ a w s':=by
 simp only[qG,hc,hX]at h
 unfold ql3 at h
 split at h
 case h_2=>cases h
 rename_i x y hxy
 unfold qhS at hX
 split at hX
 case h_2=>cases hX
 rename_i T T' hTT
 split at hX
 case h_2=>cases hX
 rename_i t0 j0 hT
 cases hq:Nat.beq T T' with
 |false=>rw[hq]at hX;cases hX
 |true=>
 rw[hq,cond_true]at hX
 cases hX
 obtain rfl:=Nat.eq_of_beq_eq_true hq
 have e2:c=⟨.builtin .append,#[x,y],#[T,T]⟩:=by
  obtain⟨c1,c2,c3⟩:=c
  simp only at hc hxy hTT
  rw[hc,<-Array.toArray_toList (xs:=c2),hxy,<-Array.toArray_toList (xs:=c3),hTT]
 subst e2
 split at h
 case h_2=>cases h
 rename_i av bv he1 he2
 have hr:=qk hs qv he1
 have hr2:=qk hs qv he2
 have hu:=(hcfg.ty T _ hT).1.xrow (by decide)
 unfold ql2 at h
 split at h
 case h_2=>cases h
 rename_i d e id p he
 obtain⟨hte,hef⟩:=hcfg.ty tid _ he
 split at h
 case h_2=>cases h
 rename_i o ho
 replace h:=qae h
 obtain⟨hcond,h⟩:=h
 simp only[Bool.and_eq_true,Bool.not_eq_true']at hcond
 obtain⟨hrow,hp,hsz⟩:=hcond
 have hsz:=Nat.eq_of_beq_eq_true hsz
 replace h:=qfN h
 obtain⟨⟨σ,yy⟩,hy,h⟩:=h
 simp only at h
 split at h
 case h_2=>cases h
 rename_i i j y0
 replace h:=qae h
 obtain⟨hi,h⟩:=h
 obtain rfl:=Nat.eq_of_beq_eq_true hi
 replace h:=jL (α:=Nat) h
 obtain⟨n,hn,h⟩:=h
 obtain⟨l2,h,hel⟩:=qfa hs hr2 hef h
 obtain⟨h2,h3,h⟩:=qco h
 replace h:=qdb h
 obtain⟨z,hz,h⟩:=h
 obtain⟨f,hrep,hnd,hH,hinf,hch⟩:=qhq (F:=AV.staleX id) hs ho hy hr (.inr ⟨rfl,hrow,hp⟩)
 have hn:y0=(some n:Option Nat):=hn
 subst hn
 have hR:RowX i w n [a.eval x] f:=hrep
 obtain⟨hdr,xs,e1,rfl,hown⟩:=hR
 replace e1:=qed e1
 obtain⟨news,hraw,hch2⟩:=qfx.raw hel
 have hown':w.ownsRow 0 i e.size hdr n xs:=by rw[hsz];exact hown
 obtain⟨v',w',hrun,hown2,_,hg,hblk⟩:=qde hu hte ty hown' hraw (qe.all (λ_ _ _ hh=>qm.one e hh) hch2) (by omega)
 rw[hsz]at hown2
 have hm:jM (· ∈hdr.ownBlock.toList) w w':=⟨hg.os,hg.tape,hg.output,hg.size,λk hk hM=>hg.block k hk (λe=>hM (by rw[<-e];simp))⟩
 obtain⟨v0,e3,hv0⟩:=qS.shape (n:=5) hrep
 have hv0':(a.eval x).oneCell'=true:=by rw[qed e3];exact hv0
 obtain⟨Φ',hs1,hfree⟩:=hch w' [] (none:Option Nat) z hm ⟨rfl,_,rfl,hv0'⟩ List.nodup_nil (by simp) hz
 obtain⟨Φ2,hs2⟩:=hs1.newExt (n:=5) (i:=i) (j:=j) (y:=(some (n+l2.length):Option Nat)) (v:=v') (fp:=v'.ownBlock.toList) hcfg hC (Eq.mp Nat.blt_eq hd) (jM.refl _ _) (by cases v'.ownBlock<;>simp) ⟨v',_,rfl,rfl,hown2⟩ (by
  intro b hb
  rcases hblk with hb'|⟨g,hb',h5,h6⟩
  ·rw[hb']at hb
   obtain⟨p1,p2,p3⟩:=(hs.os id o ho).2 b (hinf b hb)
   exact⟨p1,p2,Nat.lt_of_lt_of_le p3 hm.size,λj' o' _ hj=>hfree j' o' hj b (.inl hb) (by simp)⟩
  ·rw[hb']at hb
   have hb:b=g:=by simpa using hb
   subst hb
   refine⟨?_,.inr (Nat.le_trans hs.mod.size h5),h6,λj' o' _ hj hbj=>?_⟩
   ·cases hq:H b with
    |none=>rfl
    |some c=>exact absurd (hs.hok.lt hq) (by omega)
   ·exact hfree j' o' hj b (.inr h5) (by simp) hbj)
 refine⟨_,h,qad (w':=w') (v:=v') ?_ ⟨H,Φ2,hs2⟩⟩
 rw[<-e1]at hrun
 simp[execOp,resolve,invoke,builtin,hrun]
end
end Go.Vi
namespace Go.Vi
def qc4:(τ:Ty)->τ.den->List Value
 |.int k,x=>[.int k x]
 |.bool,x=>[.bool x]
 |.pair a b,x=>qc4 a x.1++qc4 b x.2
 |.str t,x=>qc4 t x
 |.arr _ e,l=>(l.map λx=>qc4 e x).flatten
 |_,_=>[]
def RTy.isV:RTy->Bool
 |.v τ=>τ.isFlat
 |_=>false
def qik(p:jE):Bool:=p.ps.all jT.reads&&p.rs.all RTy.isV&&Nat.blt p.rs.length 1000
def qg0:(rs:List RTy)->RDens rs->List Value
 |[],_=>[]
 |.v τ::rs,d=>jZ τ (qc4 τ d.1)::qg0 rs d.2
 |.own _ _::rs,d=>undef::qg0 rs d.2
 |.optr _::rs,d=>undef::qg0 rs d.2
 |.ownv _::rs,d=>undef::qg0 rs d.2
 |.sure _ _ _::rs,d=>undef::qg0 rs d.2
section
variable {P:Program} {C:Ctx} {cfg:jG} {R:Type} {r:R} {s:St} {a:Act} {w:World} {H:FH} {Φ:Nat->qB} {dst:Option Nat} {ty:TypeId} {pos:String} {after:Array Edge} {guard:Option (Nat×Bool)} {k:St->Option R}
theorem qe.flat{α:Type}{Q:α->List Value->List Nat->Prop}{f:α->List Value}(h:∀x c fp,Q x c fp->c=f x):∀{l:List α} {xs fp},qe Q l xs fp->xs=(l.map f).flatten
 |[],_,_,hh=>by simp[hh.1]
 |x::l,_,_,⟨c,xs',g,fp',e1,_,h2,h3⟩=>by rw[e1,h _ _ _ h2,qe.flat h h3];simp
theorem qm.flat:(τ:Ty)->τ.isFlat=true->∀{w H x cs fp},qm P τ w H x cs fp->cs=qc4 τ x
 |.int _,_,_,_,_,_,_,h=>h.1
 |.bool,_,_,_,_,_,_,h=>h.1
 |.list _ _ _,hf,_,_,_,_,_,_=>by simp[Ty.isFlat]at hf
 |.pair a b,hf,_,_,_,_,_,h=>by
  simp only[Ty.isFlat,Bool.and_eq_true]at hf
  obtain⟨c1,c2,f1,f2,e,_,h1,h2⟩:=h
  rw[e,qm.flat a hf.1 h1,qm.flat b hf.2 h2];rfl
 |.str t,hf,_,_,_,_,_,h=>qm.flat t (by simpa[Ty.isFlat]using hf) h
 |.ptr _,hf,_,_,_,_,_,_=>by simp[Ty.isFlat]at hf
 |.op _,hf,_,_,_,_,_,_=>by simp[Ty.isFlat]at hf
 |.arr _ e,hf,_,_,_,_,_,h=>qe.flat (λ_ _ _ hh=>qm.flat e (by simpa[Ty.isFlat]using hf) hh) h.2
 |.fn _ _,hf,_,_,_,_,_,_=>by simp[Ty.isFlat]at hf
 |.fn2 _ _ _,hf,_,_,_,_,_,_=>by simp[Ty.isFlat]at hf
 |.ext _ _ _ _,hf,_,_,_,_,_,_=>by simp[Ty.isFlat]at hf
theorem qm.flat_any:(τ:Ty)->τ.isFlat=true->∀{w H x cs fp},qm P τ w H x cs fp->∀w' H',qm P τ w' H' x cs []
 |τ,hf,w,H,x,cs,fp,h=>by
  intro w' H'
  have hfp:=qm.fz_fp τ (Ty.flat_fz τ hf) h
  subst hfp
  exact qm.closed τ (Ty.flat_closed τ hf) (qm.mono τ (FH.le_refl H) (by simp) h)
theorem qie:∀{rs:List RTy} {d:RDens rs} {us:List Value} {Ψs:List qB},rs.all RTy.isV=true->qal P w H rs d us Ψs->us=qg0 rs d/\
  ∀{w' H' Φ' os} (s:St) (n:Nat),(jI s n rs d).1=s/\(jI s n rs d).2.isTup=true/\qh P C w' H' Φ' os (jI s n rs d).2 (.tuple us.toArray)
 |[],_,us,Ψs,_,h=>by
  obtain⟨rfl,rfl⟩:=h
  exact⟨rfl,λs n=>⟨rfl,rfl,rfl⟩⟩
 |.v τ::rs,d,us,Ψs,hf,h=>by
  simp only[List.all_cons,Bool.and_eq_true]at hf
  obtain⟨v,vs',φ,Φs',rfl,rfl,hfz,_,⟨cs,hv,hrep⟩,h⟩:=h
  obtain⟨h1,h2⟩:=qie hf.2 h
  have hcs:=qm.flat τ hf.1 hrep
  refine⟨by rw[hv,hcs,h1];rfl,λs n=>?_⟩
  obtain⟨k1,k2,k3⟩:=h2 s (n+1)
  exact⟨k1,k2,v,vs',rfl,⟨hfz,cs,hv,qm.flat_any τ hf.1 hrep _ _⟩,k3⟩
 |.own _ _::rs,_,_,_,hf,_=>by simp[RTy.isV]at hf
 |.optr _::rs,_,_,_,hf,_=>by simp[RTy.isV]at hf
 |.ownv _::rs,_,_,_,hf,_=>by simp[RTy.isV]at hf
 |.sure _ _ _::rs,_,_,_,hf,_=>by simp[RTy.isV]at hf
theorem qfS{w':World}:∀{ps:List jT} {d:PDens ps} {vs:List Value} {Φs:List qB},ps.all jT.reads=true->jP P w H ps d vs Φs->jP P w' H ps d vs Φs/\qd Φs=[]
 |[],_,_,_,_,h=>⟨h,by rw[h.2];rfl⟩
 |.v τ::ps,d,vs,Φs,hp,h=>by
  obtain⟨v,vs',φ,Φs',e1,e2,e3,e4,e5,h⟩:=h
  obtain⟨h1,h2⟩:=qfS (by simpa[jT.reads]using hp) h
  exact⟨⟨v,vs',φ,Φs',e1,e2,e3,e4,RepV.mono (FH.le_refl H) e5,h1⟩,by rw[e2];simpa[qd,e4]using h2⟩
 |.r τ::ps,d,vs,Φs,hp,h=>by
  obtain⟨v,vs',φ,Φs',e1,e2,e3,e4,e5,h⟩:=h
  obtain⟨h1,h2⟩:=qfS (by simpa[jT.reads]using hp) h
  exact⟨⟨v,vs',φ,Φs',e1,e2,e3,e4,qg8.mono (FH.le_refl H) e5,h1⟩,by rw[e2];simpa[qd,e4]using h2⟩
 |.c _::_,_,_,_,hp,_=>by simp[jT.reads]at hp
 |.m _::_,_,_,_,hp,_=>by simp[jT.reads]at hp
 |.mr _ _::_,_,_,_,hp,_=>by simp[jT.reads]at hp
 |.t _ _::_,_,_,_,hp,_=>by simp[jT.reads]at hp
 |.gm _::_,_,_,_,hp,_=>by simp[jT.reads]at hp
 |.cm _ _::_,_,_,_,hp,_=>by simp[jT.reads]at hp
theorem qfG:∀{ps:List jT} (l:List AV) (md:MDens ps) (s:St),ps.all jT.reads=true->qx s ps l md=s
 |[],l,_,_,_=>by cases l<;>rfl
 |.v _::ps,[],_,_,_=>rfl
 |.v _::ps,_::l,md,s,hp=>qfG (ps:=ps) l md s (by simpa[jT.reads]using hp)
 |.r _::ps,[],_,_,_=>rfl
 |.c _::ps,[],_,_,_=>rfl
 |.r _::ps,_::l,md,s,hp=>qfG (ps:=ps) l md s (by simpa[jT.reads]using hp)
 |.c _::_,_::_,_,_,hp=>by simp[jT.reads]at hp
 |.m _::_,_,_,_,hp=>by simp[jT.reads]at hp
 |.mr _ _::_,_,_,_,hp=>by simp[jT.reads]at hp
 |.t _ _::_,_,_,_,hp=>by simp[jT.reads]at hp
 |.gm _::_,_,_,_,hp=>by simp[jT.reads]at hp
 |.cm _ _::_,_,_,_,hp=>by simp[jT.reads]at hp
theorem qiE:∀{rs:List RTy},rs.all RTy.isV=true->rs.all RTy.closed=true
 |[],_=>rfl
 |.v τ::rs,h=>by
  simp only[List.all_cons,Bool.and_eq_true]at h ⊢
  exact⟨h.1,qiE h.2⟩
 |.own _ _::rs,h=>by simp[RTy.isV]at h
 |.optr _::rs,h=>by simp[RTy.isV]at h
 |.ownv _::rs,h=>by simp[RTy.isV]at h
 |.sure _ _ _::rs,h=>by simp[RTy.isV]at h
theorem qd8:∀{ps:List jT},ps.all jT.reads=true->ps.all jT.closed=true
 |[],_=>rfl
 |.v _::ps,h=>by simpa[jT.closed]using qd8 (ps:=ps) (by simpa[jT.reads]using h)
 |.r _::ps,h=>by simpa[jT.closed]using qd8 (ps:=ps) (by simpa[jT.reads]using h)
 |.c _::_,h=>by simp[jT.reads]at h
 |.m _::_,hp=>by simp[jT.reads]at hp
 |.mr _ _::_,hp=>by simp[jT.reads]at hp
 |.t _ _::_,hp=>by simp[jT.reads]at hp
 |.gm _::_,hp=>by simp[jT.reads]at hp
 |.cm _ _::_,hp=>by simp[jT.reads]at hp
theorem qlZ(hcfg:qu P cfg)(hC:qz C cfg){f:Nat}{p:jE}(hp:lk cfg.prims f=some p)(hqp:qik p=true){l:List AV}{vs:List Value}(hs:qg P C s a w H Φ)(hd:qF cfg.nt dst=true)(hrel:qaa (qh P C w H Φ s.obj) l vs)
  (h:qgt cfg s dst p l k=some r):∃s',k s'=some r/\∃v,Sim P C s' (a.put dst v) w/\∀w',jM qV w w'->Calls P f vs.toArray w' λe w''=>e = .returned v/\jM qV w w'':=by
 obtain⟨_,hsound⟩:=hcfg.prims f p hp
 simp only[qik,Bool.and_eq_true]at hqp
 obtain⟨⟨hps,hrv⟩,_⟩:=hqp
 unfold qgt at h
 cases hq:apart (qE p.ps l) (qt p.ps l)&&Nat.blt p.rs.length 1000 with
 |false=>rw[hq]at h;cases h
 |true=>
 rw[hq,cond_true]at h
 obtain⟨Hf,m1,m2,m3,m4,m5⟩:=qg.freezeAll (qt p.ps l) hs
 obtain⟨d,h,Φs,hargs,hmr⟩:=qa2 hcfg hs m1 m3 hrel h
 rw[qi]at h
 replace h:=Option.bind_eq_some_iff.1 h
 obtain⟨y,hy,h⟩:=h
 rw[qiE hrv,qd8 hps,Bool.and_self,cond_true]at h
 dsimp only at h
 rw[qfG l _ _ hps]at h
 have hcall:∀w',jM qV w w'->Calls P f vs.toArray w' λe w''=>(∃us Ψs H',e = .returned (qap us)/\qal P w'' H' p.rs y.1 us Ψs)/\jM qV w w'':=by
  intro w' hm
  obtain⟨ha,hfp⟩:=qfS (w':=w') hps hargs
  have hok':HOk Hf w':=m4.hok.mod hm (λ_ hb=>hb.elim)
  refine(hsound d y hy w' Hf vs Φs hok' ha (by rw[hfp];simp) (by rw[hfp];simp)).mono ?_
  rintro e w'' ⟨us,H',Φs',Ψs,he,hm2,_,_,_,hres,_⟩
  exact⟨⟨us,Ψs,H',he,hres⟩,hm.trans (qkw hfp hm2)⟩
 obtain⟨_,w0,_,⟨⟨us,Ψs,H',_,hres⟩,_⟩,_⟩:=hcall w (jM.refl _ _) []
 obtain⟨hus,htup⟩:=qie (C:=C) hrv hres
 obtain⟨k1,k2,k3⟩:=htup (w':=w) (H':=H) (Φ':=Φ) (os:=s.obj) (s.killIf AV.isUpd) (1000*(dst.getD 0+1))
 refine⟨_,h,qap us,?_,?_⟩
 ·rw[k1]
  exact⟨H,Φ,(hs.killIf AV.isUpd).setDst (by rw[hC.nt];exact hd) (qkx k2 k3)⟩
 ·intro w' hm
  refine(hcall w' hm).mono ?_
  rintro e w'' ⟨⟨us2,Ψs2,H2,he,hres2⟩,hm2⟩
  refine⟨?_,hm2⟩
  rw[he,(qie (C:=C) hrv hres2).1,hus]
theorem qaJ{f:Nat}(hcal:qW P f)(args:Array Value)(w:World):(callFunc f args).run P w = .ok (.enter f args) w:=by
 obtain⟨fn,hf,hn,hb⟩:=hcal
 have hb':¬fn.body=none:=by intro h;rw[h]at hb;cases hb
 have hn':¬fn.name = "runtime.NumGoroutine" :=by simpa using hn
 simp[callFunc,hf,hn',hb']
theorem qaK{c:Call}{fop:Operand}(hc:c.callee = .value fop){f:Nat}{vs us:Array Value}(hv:a.eval fop = .func (.func f) vs us)(hcal:qW P f)(w:World):
  (execOp a.eval ⟨dst,.call c,ty,pos,after,guard⟩).run P w = .ok (.enter f (vs++c.args.map a.eval++us)) w:=by
 simp[execOp,resolve,hc,hv,Deferred.ofValue,invoke,qaJ hcal]
theorem qa7{o:Oper}{f:Nat}{args:Array Value}{s':St}(hrun:(execOp a.eval o).run P w = .ok (.enter f args) w)(h:Calls P f args w λe w''=>∃v,e = .returned v/\Sim P C s' (a.put o.dst v) w''):qaG P C o a w s':=by
 unfold qaG
 rw[hrun]
 exact h
theorem qly{β:Type}(f:Operand->β)(c:Array Operand):(c.map f).toList=c.toList.map f:=by simp
theorem qcv{s:St}{avs:List AV}:∀{l:List Operand},qaa (λav x=>qh P C w H Φ s.obj av (a.eval x)) avs l->qaa (qh P C w H Φ s.obj) avs (l.map a.eval)
 |l,h=>by
  induction l generalizing avs with
  |nil=>cases avs<;>first|trivial|exact h.elim
  |cons x l ih=>cases avs<;>first|exact h.elim|exact⟨h.1,ih h.2⟩
theorem qgs(hC:qz C cfg){f:Nat}{tid:Nat}{e:Ty}{g:List e.den×Unit->Option (Unit×(List e.den×Unit))}{tail:List Value}(hsound:∀d y,g d=some y->∀(w:World) (H:FH) (vs:List Value) (Φs:List qB),HOk H w->jP P w H [.mr tid e] d vs Φs->
   (qd Φs).Nodup->(∀b∈qd Φs,H b=none/\b<w.heap.size)->
   Calls P f (vs++tail).toArray w λev w'=>∃us H' Φs' Ψs,ev = .returned (qap us)/\jM (· ∈qd Φs) w w'/\H.le H'/\HOk H' w'/\(∀b c,H' b=some c->H b=some c\/b∈qd Φs\/w.heap.size<=b)/\
    qal P w' H' [] y.1 us Ψs/\jK P w' H' [.mr tid e] y.2 vs Φs'/\(qd (Ψs++Φs')).Nodup/\∀b∈qd (Ψs++Φs'),H' b=none/\(b∈qd Φs\/w.heap.size<=b)/\b<w'.heap.size)
  {id:Nat} {path:List qq} {v:Value} (hs:qg P C s a w H Φ) (hd:qF cfg.nt dst=true) (hr:qh P C w H Φ s.obj (.view id path) v)
  (h:qfc s dst tid e g id path k=some r):∃s',k s'=some r/\Calls P f (v::tail).toArray w λe w''=>∃v,e = .returned v/\Sim P C s' (a.put dst v) w'':=by
 unfold qfc at h
 split at h
 case h_2=>cases h
 rename_i o ho
 cases hfl:e.isFlat && !(o.row&&path.isEmpty)with
 |false=>rw[hfl]at h;cases h
 |true=>
 rw[hfl,cond_true,jJ]at h
 rw[Bool.and_eq_true,Bool.not_eq_true']at hfl
 obtain⟨hfl,hrp⟩:=hfl
 replace h:=Option.bind_eq_some_iff.1 h
 obtain⟨⟨σ,y⟩,hy,h⟩:=h
 rw[qi]at h
 replace h:=Option.bind_eq_some_iff.1 h
 obtain⟨l,hl,h⟩:=h
 obtain⟨e1,hl⟩:=qf hl
 simp only at e1
 subst e1
 subst hl
 rw[qi]at h
 replace h:=Option.bind_eq_some_iff.1 h
 obtain⟨⟨u0,l',u1⟩,hg,h⟩:=h
 rw[qar]at h
 replace h:=Option.bind_eq_some_iff.1 h
 obtain⟨z,hz,h⟩:=h
 simp only at hz h hg
 obtain⟨o',y',q1,q2,q3⟩:=hr
 rw[ho]at q1
 cases q1
 rw[hrp]at q3
 rw[hy]at q2
 cases q2
 obtain⟨b,off,blk,t,hloc,hblk,hv⟩:=q3
 have hok:=(hs.os id o ho).1
 have hob:=(hs.os id o ho).2
 obtain⟨b',o',blk',t',pre',c,post',f1,f,f2,e1,e2,e3,e4,e5,e6,hl',e7⟩:=hok.desc2 hy ⟨w,_,_,hloc⟩ hrp
 obtain⟨rfl,rfl⟩:=jS.det hloc (hl' w (λ_ _=>rfl))
 rw[hblk]at e1
 cases e1
 have e6':=e6
 obtain⟨hdr,xs,fp',ec,ef,_,_⟩:=e6'
 have hvh:v=hdr:=by
  rw[hv]
  have:seg blk off (Ty.list true tid e).size=c:=by rw[<-e3];exact qU e2 (qm.length _ e6)
  rw[this,ec];rfl
 subst hvh
 have hnd:=hok.2.1
 rw[e4]at hnd
 have hndf:f.Nodup:=(List.nodup_append.1 (List.nodup_append.1 hnd).1).2.1
 have hin:∀k∈f,k∈(Φ id).fp:=λk hk=>by rw[e4];simp[hk]
 have hin1:∀k∈f1,k∈(Φ id).fp:=λk hk=>by rw[e4];simp[hk]
 have hin2:∀k∈f2,k∈(Φ id).fp:=λk hk=>by rw[e4];simp[hk]
 have hnot1:∀k∈f1,k∉f:=λk h1 h2=>(List.nodup_append.1 (List.nodup_append.1 hnd).1).2.2 k h1 k h2 rfl
 have hnot2:∀k∈f2,k∉f:=λk h1 h2=>(List.nodup_append.1 hnd).2.2 k (by simp[h2]) k h1 rfl
 have hne2:(Ty.list true tid e).noFn=true:=qbv _ hok.1 hy
 subst ec
 have hc:=hsound (l,()) (u0,l',u1) hg w H [v] [⟨0,v,f⟩] hs.hok ⟨v,[],_,[],rfl,rfl,rfl,qK.of_list hne2 hndf e6,rfl,rfl⟩ (by simpa[qd]using hndf) (by
  intro k hk
  have hk':k∈f:=by simpa[qd]using hk
  exact⟨(hob k (hin k hk')).1,(hob k (hin k hk')).2.2⟩)
 refine⟨_,h,hc.mono ?_⟩
 rintro ev w'' ⟨us,H',Φs',Ψs,he,hm,hle,hok',hnew,hres,hmu,hnd2,hall⟩
 obtain⟨rfl,rfl⟩:=hres
 obtain⟨v2,vs2,φ',Φs2,ea,eb,ev2,hobj',hmt⟩:=hmu
 cases ea
 subst eb
 obtain⟨_,rfl⟩:=hmt
 have hmf:∀k,(k∈qd [(⟨0,v,f⟩:qB)])↔k∈f:=λk=>by simp[qd]
 have hm':jM (· ∈f) w w'':=hm.mono (λk hk=>(hmf k).1 hk)
 have hfp':∀k∈φ'.fp,(k∈f\/w.heap.size<=k)/\k<w''.heap.size:=by
  intro k hk
  obtain⟨_,p2,p3⟩:=hall k (by simp[qd,hk])
  exact⟨p2.imp_left (hmf k).1,p3⟩
 have hcl:(Ty.list true tid e).isClosed=true:=by simpa[Ty.isClosed]using Ty.flat_closed e hfl
 have hrep':qm P (.list true tid e) w'' H l' [v] φ'.fp:=by
  have:=(qK.closed (H':=H) hcl hobj').row_list
  rw[<-ev2]at this
  exact this
 have hokw:HOk H w'':=hs.hok.mod hm' (λk hk=>(hob k (hin k hk)).1)
 have hb1:b∉f:=hnot1 b e5
 have hblt:b<w.heap.size:=(Array.getElem?_eq_some_iff.1 hblk).1
 have hblkw:w''.heap[b]? = some (.cells (pre'++[v]++post').toArray t (0,0)):=by
  rw[hm'.block b hblt hb1,hblk]
  rw[<-e2]
 have hnd3:(f1++φ'.fp++f2).Nodup:=by
  have k1:=List.nodup_append.1 hnd
  have k2:=List.nodup_append.1 k1.1
  have hφ:φ'.fp.Nodup:=hobj'.2.1
  rw[List.nodup_append,List.nodup_append]
  refine⟨⟨k2.1,hφ,?_⟩,k1.2.1,?_⟩
  ·rintro x hx _ hx2 rfl
   rcases(hfp' x hx2).1 with h1|h1
   ·exact hnot1 x hx h1
   ·have:=(hob x (hin1 x hx)).2.2;omega
  ·rintro x hx _ hx2 rfl
   rcases List.mem_append.1 hx with h1|h1
   ·exact k1.2.2 x (by simp[h1]) x hx2 rfl
   ·rcases(hfp' x h1).1 with h1|h1
    ·exact hnot2 x hx2 h1
    ·have:=(hob x (hin2 x hx2)).2.2;omega
 have hobj2:=e7 w'' [v] φ'.fp (.list true tid e) l' z hrep' hz hblkw (by
  intro k hk _
  rcases List.mem_append.1 hk with h1|h1
  ·exact hm'.block k (hob k (hin1 k h1)).2.2 (hnot1 k h1)
  ·exact hm'.block k (hob k (hin2 k h1)).2.2 (hnot2 k h1)) hnd3
 have hmod2:jM C.M0 C.w0 w'':=hs.mod.trans_new hm' (λk hk=>(hob k (hin k hk)).2.1)
 have hch:=hs.change ho z ⟨(Φ id).b,(Φ id).hdr,f1++φ'.fp++f2⟩ rfl rfl (FH.le_refl _) hokw hs.hnew hmod2 hm'.size (by
  intro j o2 hj hoj k hk
  refine⟨hm'.block k ((hs.os j o2 hoj).2 k hk).2.2 (λhkf=>hs.disj j id o2 o hj hoj ho k hk (hin k hkf)),((hs.os j o2 hoj).2 k hk).1⟩) hobj2 (by
  intro k hk
  have hk':k∈f1++φ'.fp++f2:=hk
  have old:∀k,k∈(Φ id).fp->H k=none/\(C.M0 k\/C.w0.heap.size<=k)/\k<w''.heap.size/\∀j o2,j≠id->s.obj j=some o2->k∉(Φ j).fp:=λk hk=>by
   obtain⟨p1,p2,p3⟩:=hob k hk
   exact⟨p1,p2,Nat.lt_of_lt_of_le p3 hm'.size,λj o2 hj hoj=>hs.disj id j o o2 (λe=>hj e.symm) ho hoj k hk⟩
  rcases List.mem_append.1 hk' with h1|h1
  ·rcases List.mem_append.1 h1 with h1|h1
   ·exact old k (hin1 k h1)
   ·obtain⟨p1,p2⟩:=hfp' k h1
    rcases p1 with p1|p1
    ·exact old k (hin k p1)
    ·refine⟨?_,.inr (Nat.le_trans hs.mod.size p1),p2,λj o2 _ hoj hkj=>?_⟩
     ·cases hq:H k with
      |none=>rfl
      |some c=>exact absurd (hs.hok.lt hq) (by omega)
     ·have:=((hs.os j o2 hoj).2 k hkj).2.2
      omega
  ·exact old k (hin2 k h1))
 exact⟨_,he,H,_,hch.setDst (by rw[hC.nt];exact hd) rfl⟩
theorem qfq{s:St}{id id':Nat}{q q':List qq}(h:qd4 s id q=some (id',q')):id=id'/\q=q':=by
 unfold qd4 at h
 split at h
 ·rename_i o _
  cases hrq:o.row&&q.isEmpty with
  |true=>rw[hrq]at h;cases h
  |false=>rw[hrq]at h;cases h;exact⟨rfl,rfl⟩
 ·cases h
theorem qlR{s:St}{f g id:Nat}{q:List qq}{z:Nat×List qq}(h:(bif Nat.beq g f then qd4 s id q else none)=some z):g=f/\qd4 s id q=some z:=by
 cases hb:Nat.beq g f with
 |true=>rw[hb]at h;exact⟨Nat.eq_of_beq_eq_true hb,h⟩
 |false=>rw[hb]at h;cases h
theorem qlT{s:St}{tid:Nat}{e:Ty}{x y:AV}{l:List AV}{id:Nat}{q:List qq}(h:qcy s [.mr tid e] x y l=some (id,q)):l=[.view id q]:=by
 unfold qcy at h
 split at h
 ·obtain⟨rfl,rfl⟩:=qfq h;rfl
 ·rename_i hps;cases hps
 ·cases h
theorem qlS{s:St}{tid f:Nat}{e:Ty}{x y:AV}{l:List AV}{id:Nat}{q:List qq}(h:qcy s [.mr tid e,.c f] x y l=some (id,q)):l=[.view id q,.fn f .nil .nil]:=by
 unfold qcy at h
 split at h
 ·rename_i hps;cases hps
 ·rename_i hps
  cases hps
  replace h:=qlR h
  obtain⟨rfl,h⟩:=h
  replace h:=qfq h
  obtain⟨rfl,rfl⟩:=h
  rfl
 ·cases h
theorem qlY(hcfg:qu P cfg)(hC:qz C cfg){f:Nat}{p:jE}(hp:lk cfg.prims f=some p){id:Nat}{path:List qq}{l:List AV}{vs:List Value}(hs:qg P C s a w H Φ)(hd:qF cfg.nt dst=true)(hr:qaa (qh P C w H Φ s.obj) l vs){x y:AV}(hda:qcy s p.ps x y l=some (id,path))
  (h:qg5 s dst p id path k=some r):∃s',k s'=some r/\Calls P f vs.toArray w λe w''=>∃v,e = .returned v/\Sim P C s' (a.put dst v) w'':=by
 obtain⟨_,hsound⟩:=hcfg.prims f p hp
 unfold qg5 at h
 split at h
 ·rename_i tid e g
  obtain rfl:=qlT hda
  match vs,hr with
  |[v],hr=>
   exact qgs (cfg:=cfg) (tail:=[]) hC (λd y hy w H vs Φs h1 h2 h3 h4=>by rw[List.append_nil];exact hsound d y hy w H vs Φs h1 h2 h3 h4) hs hd hr.1 h
  |[],hr=>exact hr.elim
  |_::_::_,hr=>exact hr.2.elim
 ·rename_i tid e f2 g
  obtain rfl:=qlS hda
  match vs,hr with
  |[v,u],hr=>
   obtain⟨fs,us,hu,hr1,hr2⟩:=hr.2.1
   have hfs:fs = #[]:=by have:Value.tuple fs = .tuple #[]:=hr1;injection this
   have hus:us = #[]:=by have:Value.tuple us = .tuple #[]:=hr2;injection this
   subst hfs
   subst hus
   subst hu
   exact qgs (cfg:=cfg) (tail:=[.func (.func f2) #[] #[]]) hC (λd y hy w H vs Φs h1 h2 h3 h4=>by
    obtain⟨v0,vs',φ,Φs',rfl,rfl,k1,k2,rfl,rfl⟩:=h2
    have hfp:∀φ:qB,qd [φ,qw]=qd [φ]:=λφ=>by simp[qd,qw]
    refine(hsound (d.1,((),())) y hy w H [v0,.func (.func f2) #[] #[]] [φ,qw] h1 ⟨v0,_,φ,_,rfl,rfl,k1,k2,_,[],qw,[],rfl,rfl,trivial,rfl,rfl,rfl,rfl⟩ (by rw[hfp];exact h3) (by rw[hfp];exact h4)).mono ?_
    rintro ev w' ⟨us,H',Φs2,Ψs,e1,e2,e3,e4,e5,e6,e7,e8,e9⟩
    obtain⟨v1,vs1,φ1,Φs1,q1,rfl,q3,q4,v2,vs2,φ2,Φs3,q5,rfl,q7,q8,q9⟩:=e7
    cases q1
    cases q5
    subst q9
    rw[hfp]at e2 e5 e9
    have hfp2:qd (Ψs++[φ1,φ2])=qd (Ψs++[φ1]):=by simp[qd,q7]
    rw[hfp2]at e8 e9
    exact⟨us,H',[φ1],Ψs,e1,e2,e3,e4,e5,e6,⟨v0,[],φ1,[],rfl,rfl,q3,q4,rfl,rfl⟩,e8,e9⟩) hs hd hr.1 h
  |[],hr=>exact hr.elim
  |[_],hr=>exact hr.2.elim
  |_::_::_::_,hr=>exact hr.2.2.elim
 ·cases h
theorem qlx(hcfg:qu P cfg)(hC:qz C cfg){f:Nat}{mp:qjc}(hp:lk cfg.mas f=some mp){l:List AV}{vs:List Value}(hs:qg P C s a w H Φ)(hd:qF cfg.nt dst=true)(hrel:qaa (qh P C w H Φ s.obj) l vs)
  (h:qiw cfg s dst mp l k=some r):∃s',k s'=some r/\Calls P f vs.toArray w λe w''=>∃v,e = .returned v/\Sim P C s' (a.put dst v) w'':=by
 unfold qiw at h
 cases h
theorem qkN{s:St}{ps:List jT}{x y:AV}{l:List AV}{z:Nat×List qq}(h:qcy s ps x y l=some z):x = .nil/\y = .nil:=by
 unfold qcy at h
 split at h
 ·exact⟨rfl,rfl⟩
 ·exact⟨rfl,rfl⟩
 ·cases h
theorem qjo{s:St}{ps:List jT}(h:ps.all jT.reads=true)(x y:AV)(l:List AV):qcy s ps x y l=none:=by
 unfold qcy
 split
 ·simp[jT.reads]at h
 ·simp[jT.reads]at h
 ·rfl
theorem qlr(hcfg:qu P cfg)(hC:qz C cfg){c:Call}{fop:Operand}(hc:c.callee = .value fop)(hs:qg P C s a w H Φ)(hd:qF cfg.nt dst=true){i f n:Nat}{l:List AV}(he:qh P C w H Φ s.obj (.cv i f n) (a.eval fop))(lm:qaa (qh P C w H Φ s.obj) l (c.args.toList.map a.eval))
  (h:qgH cfg s dst i f n l k=some r):∃s',k s'=some r/\qaG P C ⟨dst,.call c,ty,pos,after,guard⟩ a w s':=by
 unfold qgH at h
 cases h
theorem qjz{x y:Operand}(h:qh9 x y=true):x=y:=by
 unfold qh9 at h
 split at h
 ·rw[Nat.eq_of_beq_eq_true h]
 ·rw[Nat.eq_of_beq_eq_true h]
 ·rename_i b1 b2
  have:b1=b2:=by simpa using h
  rw[this]
 ·simp only[Bool.and_eq_true,beq_iff_eq]at h
  rw[h.1,h.2]
 ·cases h
theorem qh8:∀{l r:List Operand},qf1 l r=true->l=r
 |[],[],_=>rfl
 |a::l,b::r,h=>by
  simp only[qf1,Bool.and_eq_true]at h
  rw[qjz h.1,qh8 h.2]
 |[],_::_,h=>by cases h
 |_::_,[],h=>by cases h
theorem qn2(hcfg:qu P cfg)(hC:qz C cfg){c:Call}{fop:Operand}(hc:c.callee = .value fop)(hs:qg P C s a w H Φ)(hd:qF cfg.nt dst=true)(h:qkQ cfg s dst fop c k=some r):
  ∃s',k s'=some r/\qaG P C ⟨dst,.call c,ty,pos,after,guard⟩ a w s':=by
 unfold qkQ at h
 split at h
 ·rename_i il hil
  obtain⟨d,rfl,hil⟩:=Option.bind_eq_some_iff.1 hil
  unfold inlK at h
  cases hso:qh9 fop il.fop&&qf1 c.args.toList il.ops with
  |false=>rw[hso]at h;cases h
  |true=>
  rw[hso,cond_true]at h
  rw[Bool.and_eq_true]at hso
  have e1:=qjz hso.1
  have e2:=qh8 hso.2
  split at h
  case h_2=>cases h
  rename_i d0 hd0
  rw[qi]at h
  obtain⟨y,hy,h⟩:=Option.bind_eq_some_iff.1 h
  obtain⟨f,vs,us,hv,hcal,hcalls⟩:=hcfg.inl d il hil d0 y hy C a w hC.pin (by rw[hC.nt];exact Eq.mp Nat.blt_eq hd) ⟨H,Φ,qld hd0 hs⟩
  have e:vs++(il.ops.map a.eval).toArray++us=vs++c.args.map a.eval++us:=by
   rw[<-e2]
   apply Array.toList_inj.1
   simp
  rw[e]at hcalls
  exact⟨_,h,qa7 (qaK hc (by rw[e1];exact hv) hcal w) hcalls⟩
 rename_i hnil
 clear hnil
 have hfz:∀i t,(λi:Nat=>(c.argTypes[i]?).bind (lk cfg.ty)) i=some t->t.isFz=true:=by
  intro i t ht
  obtain⟨T,_,ht⟩:=Option.bind_eq_some_iff.1 ht
  exact hcfg.fz T t ht
 split at h
 ·rename_i f first caps l he1 he2
  split at h
  case h_2=>
   split at h
   case h_2=>
    split at h
    case h_2=>
     split at h
     case h_2=>
      split at h
      case h_2=>cases h
      obtain⟨vs,us,hv,hr1,hr2⟩:=qk hs qv he1
      have lm:=qcv (jV hs hfz he2)
      have hvs:vs = #[]:=by have:Value.tuple vs = .tuple #[]:=hr1;injection this
      have hus:us = #[]:=by have:Value.tuple us = .tuple #[]:=hr2;injection this
      subst hvs
      subst hus
      have hh:qW P f/\∃s',k s'=some r/\Calls P f (c.args.toList.map a.eval).toArray w λe w''=>∃v,e = .returned v/\Sim P C s' (a.put dst v) w'':=by
       split at h
       ·exact qla hcfg hC ‹_› hs hd lm h
       ·exact qmt hcfg hC hs hd lm h
      obtain⟨hcal,s',h,hcalls⟩:=hh
      have e:(c.args.toList.map a.eval).toArray = #[]++c.args.map a.eval ++ #[]:=by
       apply Array.toList_inj.1
       simp
      rw[e]at hcalls
      exact⟨s',h,qa7 (qaK hc hv hcal w) hcalls⟩
     rename_i mp hp
     cases ht:first.isTup&&caps.isTup with
     |false=>rw[ht]at h;cases h
     |true=>
     rw[ht,cond_true]at h
     rw[Bool.and_eq_true]at ht
     obtain⟨vs,us,hv,hr1,hr2⟩:=qk hs qv he1
     have l1:=qas (vs:=vs.toList) ht.1 (by simpa using hr1)
     have l2:=qas (vs:=us.toList) ht.2 (by simpa using hr2)
     have lm:=qcv (jV hs hfz he2)
     obtain⟨s',h,hcalls⟩:=qlx hcfg hC hp hs hd (qaa.append (qaa.append l1 lm) l2) h
     have e:(vs.toList++c.args.toList.map a.eval++us.toList).toArray=vs++c.args.map a.eval++us:=by
      apply Array.toList_inj.1;simp
     rw[e]at hcalls
     exact⟨s',h,qa7 (qaK hc hv (hcfg.mas f mp hp).1 w) hcalls⟩
    rename_i kp hp
    cases ht:first.isTup&&caps.isTup with
    |false=>rw[ht]at h;cases h
    |true=>
    rw[ht,cond_true]at h
    rw[Bool.and_eq_true]at ht
    obtain⟨vs,us,hv,hr1,hr2⟩:=qk hs qv he1
    have l1:=qas (vs:=vs.toList) ht.1 (by simpa using hr1)
    have l2:=qas (vs:=us.toList) ht.2 (by simpa using hr2)
    have lm:=qcv (jV hs hfz he2)
    obtain⟨s',h,hcalls⟩:=qkC hcfg hC hp hs hd (qaa.append (qaa.append l1 lm) l2) h
    have e:(vs.toList++c.args.toList.map a.eval++us.toList).toArray=vs++c.args.map a.eval++us:=by
     apply Array.toList_inj.1;simp
    rw[e]at hcalls
    exact⟨s',h,qa7 (qaK hc hv (hcfg.keeps f kp hp).1 w) hcalls⟩
   rename_i m hp
   cases ht:first.isTup&&caps.isTup with
   |false=>rw[ht]at h;cases h
   |true=>
   rw[ht,cond_true]at h
   rw[Bool.and_eq_true]at ht
   obtain⟨vs,us,hv,hr1,hr2⟩:=qk hs qv he1
   have l1:=qas (vs:=vs.toList) ht.1 (by simpa using hr1)
   have l2:=qas (vs:=us.toList) ht.2 (by simpa using hr2)
   have lm:=qcv (jV hs hfz he2)
   obtain⟨s',h,hcalls⟩:=qoj hcfg hC hp hs hd (qaa.append (qaa.append l1 lm) l2) h
   have e:(vs.toList++c.args.toList.map a.eval++us.toList).toArray=vs++c.args.map a.eval++us:=by
    apply Array.toList_inj.1;simp
   rw[e]at hcalls
   exact⟨s',h,qa7 (qaK hc hv (hcfg.makers f m hp).1 w) hcalls⟩
  rename_i p hp
  split at h
  ·rename_i id path hda
   obtain⟨rfl,rfl⟩:=qkN hda
   obtain⟨vs,us,hv,hr1,hr2⟩:=qk hs qv he1
   have lm:=qcv (jV hs hfz he2)
   have hvs:vs = #[]:=by have:Value.tuple vs = .tuple #[]:=hr1;injection this
   have hus:us = #[]:=by have:Value.tuple us = .tuple #[]:=hr2;injection this
   subst hvs
   subst hus
   obtain⟨s',h,hcalls⟩:=qlY hcfg hC hp hs hd lm hda h
   have e:(c.args.toList.map a.eval).toArray = #[]++c.args.map a.eval ++ #[]:=by
    apply Array.toList_inj.1
    simp
   rw[e]at hcalls
   exact⟨s',h,qa7 (qaK hc hv (hcfg.prims f p hp).1 w) hcalls⟩
  rename_i hda
  cases ht:first.isTup&&caps.isTup with
  |false=>rw[ht]at h;cases h
  |true=>
  rw[ht,cond_true]at h
  rw[Bool.and_eq_true]at ht
  obtain⟨vs,us,hv,hr1,hr2⟩:=qk hs qv he1
  have l1:=qas (vs:=vs.toList) ht.1 (by simpa using hr1)
  have l2:=qas (vs:=us.toList) ht.2 (by simpa using hr2)
  have lm:=qcv (jV hs hfz he2)
  have e:(vs.toList++c.args.toList.map a.eval++us.toList).toArray=vs++c.args.map a.eval++us:=by
   apply Array.toList_inj.1;simp
  have plain:qgt cfg s dst p (first.list++l++caps.list) k=some r->∃s',k s'=some r/\qaG P C ⟨dst,.call c,ty,pos,after,guard⟩ a w s':=λh=>by
   obtain⟨s',h,hcalls⟩:=callK_ok hcfg hC hp hs hd (qaa.append (qaa.append l1 lm) l2) h
   rw[e]at hcalls
   exact⟨s',h,qa7 (qaK hc hv (hcfg.prims f p hp).1 w) hcalls⟩
  split at h
  ·rename_i q hq
   rcases qok hcfg hC hq hs hd (qaa.append (qaa.append l1 lm) l2) h with⟨s',h,hcalls⟩|h
   ·rw[e]at hcalls
    exact⟨s',h,qa7 (qaK hc hv (hcfg.prims f p hp).1 w) hcalls⟩
   ·exact plain h
  ·exact plain h
 ·rename_i i f n l he1 he2
  exact qlr hcfg hC hc hs hd (qk hs qv he1) (qcv (jV hs hfz he2)) h
 ·rename_i b r2 g xav he1 he2
  cases hrf:r2.isFlat with
  |false=>rw[hrf]at h;cases h
  |true=>
  rw[hrf,cond_true]at h
  obtain⟨hfz2,cs,hv,hrep⟩:=qk hs qv he1
  have lm:=qcv (jV hs hfz he2)
  obtain⟨_,f,vs,us,rfl,hcal,hg⟩:=hrep
  obtain⟨Hf,m1,m2,m3,m4,m5⟩:=qg.freezeAll xav.touches hs
  match hal:c.args.toList.map a.eval,lm with
  |[v],lm=>
   obtain⟨hbz,x,h,cx,hvx,hrx⟩:=qda hs m1 (FH.le_refl Hf) m3 (.inl lm.1) h
   rw[qi]at h
   replace h:=Option.bind_eq_some_iff.1 h
   obtain⟨y,hy,h⟩:=h
   have hcalls:=hg x y hy Hf w cx m1 m4.hok hrx
   have e:vs ++ #[jZ b cx]++us=vs++c.args.map a.eval++us:=by
    congr 2
    apply Array.toList_inj.1
    rw[qly,hal,hvx]
   rw[e]at hcalls
   refine⟨_,h,qa7 (qaK hc (by rw[hv];rfl) hcal w) (hcalls.mono ?_)⟩
   rintro e w'' ⟨cy,he,hm,hry⟩
   exact⟨_,he,H,Φ,(hs.grow hm).setDst (by rw[hC.nt];exact hd) ⟨Ty.flat_fz r2 hrf,cy,rfl,qm.flat_any r2 hrf hry _ _⟩⟩
  |[],lm=>exact lm.elim
  |_::_::_,lm=>exact lm.2.elim
 ·rename_i b b2 r2 g xav yav he1 he2
  cases hrf:r2.isFlat with
  |false=>rw[hrf]at h;cases h
  |true=>
  rw[hrf,cond_true]at h
  obtain⟨hfz2,cs,hv,hrep⟩:=qk hs qv he1
  have lm:=qcv (jV hs hfz he2)
  obtain⟨_,f,vs,us,rfl,hcal,hg⟩:=hrep
  obtain⟨Hf,m1,m2,m3,m4,m5⟩:=qg.freezeAll (xav.touches++yav.touches) hs
  match hal:c.args.toList.map a.eval,lm with
  |[v,u],lm=>
   obtain⟨hbz,x,h,cx,hvx,hrx⟩:=qda hs m1 (FH.le_refl Hf) (λid hid=>m3 id (by simp[hid])) (.inl lm.1) h
   obtain⟨hbz2,z,h,cz,hvz,hrz⟩:=qda hs m1 (FH.le_refl Hf) (λid hid=>m3 id (by simp[hid])) (.inl lm.2.1) h
   rw[qi]at h
   replace h:=Option.bind_eq_some_iff.1 h
   obtain⟨y,hy,h⟩:=h
   have hcalls:=hg x z y hy Hf w cx cz m1 m4.hok hrx hrz
   have e:vs ++ #[jZ b cx,jZ b2 cz]++us=vs++c.args.map a.eval++us:=by
    congr 2
    apply Array.toList_inj.1
    rw[qly,hal,hvx,hvz]
   rw[e]at hcalls
   refine⟨_,h,qa7 (qaK hc (by rw[hv];rfl) hcal w) (hcalls.mono ?_)⟩
   rintro e w'' ⟨cy,he,hm,hry⟩
   exact⟨_,he,H,Φ,(hs.grow hm).setDst (by rw[hC.nt];exact hd) ⟨Ty.flat_fz r2 hrf,cy,rfl,qm.flat_any r2 hrf hry _ _⟩⟩
  |[],lm=>exact lm.elim
  |[_],lm=>exact lm.2.elim
  |_::_::_::_,lm=>exact lm.2.2.elim
 ·cases h
theorem qg.commitT(hs:qg P C s a w H Φ)(hC:qz C cfg)(x:Operand):∃Φ',qg P C (s.commitT x) a w H Φ':=by
 unfold St.commitT
 split
 ·rename_i t
  split
  ·rename_i id tid e l hg
   split
   ·rename_i o ho
    cases hq:o.row&&Nat.blt id 4000000 with
    |false=>exact⟨Φ,hs⟩
    |true=>
     rw[Bool.and_eq_true]at hq
     rw[cond_true]
     have hid:id<4000000:=Eq.mp Nat.blt_eq hq.2
     obtain⟨_,h1⟩:=hs.commit hC (hs.ts t _ hg) ho hq.1 hid
     refine⟨_,h1.weaken (λ_ _ h=>h) ?_⟩
     intro u av hu
     rw[St.get_set]at hu
     split at hu
     ·rename_i e1
      subst e1
      cases hu
      refine⟨⟨true,.list true tid e,l⟩,⟨.list true tid e,l⟩,?_,qH _ _,?_⟩
      ·rw[St.obj_set,St.newObj,St.obj_setObj,if_pos rfl]
      ·simp only[List.isEmpty_nil,Bool.and_self,qr]
     ·exact h1.ts u av hu
   ·exact⟨Φ,hs⟩
  ·exact⟨Φ,hs⟩
 ·exact⟨Φ,hs⟩
theorem qaG.map{o:Oper}{s' s'':St}(hm:∀a w,Sim P C s' a w->Sim P C s'' a w)(h:qaG P C o a w s'):qaG P C o a w s'':=by
 unfold qaG at h ⊢
 split at h
 ·exact hm _ _ h
 ·exact hm _ _ h
 ·exact h.mono (λe w'' ⟨v,he,hs⟩=>⟨v,he,hm _ _ hs⟩)
 ·exact h.elim
theorem qn5(hcfg:qu P cfg)(hC:qz C cfg){c:Call}(hc:c.callee = .builtin .append)(hs:qg P C s a w H Φ)(hd:qF cfg.nt dst=true)(h:qG cfg ⟨dst,.call c,ty,pos,after,guard⟩ s k=some r):
  ∃s',k s'=some r/\qaG P C ⟨dst,.call c,ty,pos,after,guard⟩ a w s':=by
 cases hX:qhS cfg c with
 |some tid=>exact qmF hcfg hC hc hX hs hd h
 |none=>
 obtain⟨s',h,hg⟩:=qmG hcfg hC hc hX hs hd h
 rcases h with h|h
 case inr=>exact⟨s',h,hg⟩
 unfold qfC at h
 split at h
 ·exact⟨s',h,hg⟩
 ·split at h
  ·exact⟨s',h,hg⟩
  ·refine⟨_,h,hg.map λa w hs=>?_⟩
   obtain⟨H,Φ,hs⟩:=hs
   obtain⟨Φ',hs⟩:=hs.commitT hC _
   exact⟨H,Φ',hs⟩
theorem qg.commitAll(hC:qz C cfg):∀(l:List Operand) {s:St} {Φ:Nat->qB},qg P C s a w H Φ->∃Φ',qg P C (commitAll s l) a w H Φ'
 |[],_,Φ,hs=>⟨Φ,hs⟩
 |x::r,_,_,hs=>by
  obtain⟨Φ',h⟩:=hs.commitT hC x
  exact qg.commitAll hC r h
theorem op_callv(hcfg:qu P cfg)(hC:qz C cfg){c:Call}{fop:Operand}(hc:c.callee = .value fop)(hs:qg P C s a w H Φ)(hd:qF cfg.nt dst=true)(h:qG cfg ⟨dst,.call c,ty,pos,after,guard⟩ s k=some r):
  ∃s',k s'=some r/\qaG P C ⟨dst,.call c,ty,pos,after,guard⟩ a w s':=by
 simp only[qG,hc]at h
 obtain⟨Φ',hs'⟩:=hs.commitAll hC c.args.toList
 exact qn2 hcfg hC hc hs' hd h
theorem op_callq(hcfg:qu P cfg)(hC:qz C cfg){c:Call}{f:Nat}(hc:c.callee = .value (.func f)){p:jE}(hp:lk cfg.prims f=some p)(hni:dst.bind (lk cfg.inl)=none)(hna:lk cfg.alts f=none)(hqp:qik p=true)(hs:qg P C s a w H Φ)(hd:qF cfg.nt dst=true)
  (h:qG cfg ⟨dst,.call c,ty,pos,after,guard⟩ s k=some r):∃s',k s'=some r/\Quiet P C ⟨dst,.call c,ty,pos,after,guard⟩ a w s':=by
 simp only[qG,hc]at h
 obtain⟨Φ',hs⟩:=hs.commitAll hC c.args.toList
 simp only[qkQ,hni,qI]at h
 have hfz:∀i t,(λi:Nat=>(c.argTypes[i]?).bind (lk cfg.ty)) i=some t->t.isFz=true:=by
  intro i t ht
  obtain⟨T,_,ht⟩:=Option.bind_eq_some_iff.1 ht
  exact hcfg.fz T t ht
 split at h
 ·rename_i f' first caps l he1 he2
  cases he1
  have hrd:p.ps.all jT.reads=true:=by
   unfold qik at hqp
   rw[Bool.and_eq_true,Bool.and_eq_true]at hqp
   exact hqp.1.1
  rw[hp]at h
  simp only[qjo hrd,AV.isTup,Bool.and_self,cond_true,AV.list,List.nil_append,List.append_nil,hna]at h
  have lm:=qcv (jV hs hfz he2)
  obtain⟨s',h,v,hsim,hcalls⟩:=qlZ hcfg hC hp hqp hs hd lm h
  refine⟨s',h,v,λw' hm=>?_,hsim⟩
  unfold Oper.quietAt
  rw[qaK hc (f:=f) (vs:=#[]) (us:=#[]) rfl (hcfg.prims f p hp).1 w']
  refine⟨rfl,?_⟩
  have e:(c.args.toList.map a.eval).toArray = #[]++c.args.map a.eval ++ #[]:=by
   apply Array.toList_inj.1;simp
  rw[<-e]
  exact hcalls w' hm
 ·rename_i he1 _;cases he1
 ·rename_i he1 _;cases he1
 ·rename_i he1 _;cases he1
 ·cases h
end
end Go.Vi
namespace Go.Vi
open Go.Maps (Keyed)
theorem qeg:∀(l:List (Int×Int)) (n v:Int),lkI (qes l n v) n=some v
 |[],n,v=>by simp[qes,lkI]
 |(m,u)::r,n,v=>by
  unfold qes
  cases h:m==n with
  |true=>simp[lkI]
  |false=>
   rw[cond_false]
   unfold lkI
   rw[h,cond_false]
   exact qeg r n v
theorem qdF{n k:Int}(hne:k≠n)(v:Int):∀(l:List (Int×Int)),lkI (qes l n v) k=lkI l k
 |[]=>by
  have:(n==k)=false:=by simpa using λe=>hne e.symm
  simp[qes,lkI,this]
 |(m,u)::r=>by
  unfold qes
  cases h:m==n with
  |true=>
   have e:m=n:=by simpa using h
   have h2:(m==k)=false:=by rw[e];simpa using λe=>hne e.symm
   have h3:(n==k)=false:=by simpa using λe=>hne e.symm
   simp[lkI,h2,h3]
  |false=>
   rw[cond_false]
   unfold lkI
   rw[qdF hne v r]
theorem qim:∀(l:List (Int×Int)) (n v:Int),(qes l n v).length=if(lkI l n).isSome then l.length else l.length+1
 |[],n,v=>by simp[qes,lkI]
 |(m,u)::r,n,v=>by
  unfold qes lkI
  cases h:m==n with
  |true=>simp
  |false=>
   rw[cond_false,cond_false,List.length_cons,qim r n v,List.length_cons]
   split<;>rfl
theorem qll:∀(l:List (Int×Int)) (n v:Int) (k:Int),k∈(qes l n v).map (·.1)↔k=n\/k∈l.map (·.1)
 |[],n,v,k=>by simp[qes]
 |(m,u)::r,n,v,k=>by
  unfold qes
  cases h:m==n with
  |true=>
   have e:m=n:=by simpa using h
   simp[e]
  |false=>
   rw[cond_false]
   simp only[List.map_cons,List.mem_cons,qll r n v k]
   constructor
   ·rintro(h|h|h)
    ·exact .inr (.inl h)
    ·exact .inl h
    ·exact .inr (.inr h)
   ·rintro(h|h|h)
    ·exact .inr (.inl h)
    ·exact .inl h
    ·exact .inr (.inr h)
theorem qjC:∀(l:List (Int×Int)) (n v:Int),(l.map (·.1)).Nodup->((qes l n v).map (·.1)).Nodup
 |[],n,v,_=>by simp[qes]
 |(m,u)::r,n,v,h=>by
  simp only[List.map_cons,List.nodup_cons]at h
  unfold qes
  cases hq:m==n with
  |true=>
   have e:m=n:=by simpa using hq
   subst e
   simpa using h
  |false=>
   rw[cond_false]
   simp only[List.map_cons,List.nodup_cons,qll]
   have hne:m≠n:=by simpa using hq
   exact⟨λhh=>hh.elim hne h.1,qjC r n v h.2⟩
theorem qiC:∀{l:List (Int×Int)} {n:Int},n∉l.map (·.1)->lkI l n=none
 |[],_,_=>rfl
 |(m,u)::r,n,h=>by
  simp only[List.map_cons,List.mem_cons,not_or]at h
  unfold lkI
  have:(m==n)=false:=by simpa using λe=>h.1 e.symm
  rw[this,cond_false]
  exact qiC h.2
theorem qnr:∀{l:List (Int×Int)} {n:Int},n∈l.map (·.1)->(lkI l n).isSome=true
 |[],_,h=>by simp at h
 |(m,u)::r,n,h=>by
  unfold lkI
  cases hq:m==n with
  |true=>rfl
  |false=>
   rw[cond_false]
   simp only[List.map_cons,List.mem_cons]at h
   have hne:m≠n:=by simpa using hq
   exact qnr (h.resolve_left (λe=>hne e.symm))
theorem qmN{l:List (Int×Int)}{n:Int}:(lkI l n).isSome=true↔n∈l.map (·.1):=by
 constructor
 ·intro h
  cases hd:decide (n∈l.map (·.1))with
  |true=>exact of_decide_eq_true hd
  |false=>
   rw[qiC (of_decide_eq_false hd)]at h
   cases h
 ·exact qnr
theorem qeh:∀{l:List (Int×Int)} {n:Int},(l.map (·.1)).Nodup->lkI (qi3 l n) n=none
 |[],_,_=>rfl
 |(m,u)::r,n,h=>by
  simp only[List.map_cons,List.nodup_cons]at h
  unfold qi3
  cases hq:m==n with
  |true=>
   have e:m=n:=by simpa using hq
   rw[cond_true,<-e]
   exact qiC h.1
  |false=>
   rw[cond_false]
   unfold lkI
   rw[hq,cond_false]
   exact qeh h.2
theorem qdG{n k:Int}(hne:k≠n):∀(l:List (Int×Int)),lkI (qi3 l n) k=lkI l k
 |[]=>rfl
 |(m,u)::r=>by
  unfold qi3
  cases hq:m==n with
  |true=>
   have e:m=n:=by simpa using hq
   have:(m==k)=false:=by rw[e];simpa using λe=>hne e.symm
   rw[cond_true,lkI,this,cond_false]
  |false=>
   rw[cond_false]
   unfold lkI
   rw[qdG hne r]
theorem qi2:∀(l:List (Int×Int)) (n:Int),(qi3 l n).length+(if(lkI l n).isSome then 1 else 0)=l.length
 |[],_=>rfl
 |(m,u)::r,n=>by
  unfold qi3 lkI
  cases hq:m==n with
  |true=>simp
  |false=>
   have:=qi2 r n
   rw[cond_false,cond_false,List.length_cons,List.length_cons]
   omega
theorem qnD:∀(l:List (Int×Int)) (n:Int),(qi3 l n).Sublist l
 |[],_=>List.Sublist.refl _
 |(m,u)::r,n=>by
  unfold qi3
  cases m==n with
  |true=>exact List.sublist_cons_self _ _
  |false=>exact(qnD r n).cons_cons _
theorem qg3{k n:Int}:∀{l:List Int},n∈qi0 k l↔n∈l/\n≠k
 |[]=>by simp[qi0]
 |m::r=>by
  unfold qi0
  cases hq:m==k with
  |true=>
   have e:m=k:=by simpa using hq
   rw[cond_true,qg3,List.mem_cons,e]
   constructor
   ·rintro⟨h1,h2⟩;exact⟨.inr h1,h2⟩
   ·rintro⟨h1,h2⟩;exact⟨h1.resolve_left h2,h2⟩
  |false=>
   have hne:m≠k:=by simpa using hq
   rw[cond_false,List.mem_cons,qg3,List.mem_cons]
   constructor
   ·rintro(h|⟨h1,h2⟩)
    ·exact⟨.inl h,by rw[h];exact hne⟩
    ·exact⟨.inr h1,h2⟩
   ·rintro⟨h1|h1,h2⟩
    ·exact .inl h1
    ·exact .inr ⟨h1,h2⟩
theorem qdZ{t:Nat}:∀{l:List Nat},qdH t l=true↔t∈l
 |[]=>by simp[qdH]
 |u::r=>by
  unfold qdH
  rw[Bool.or_eq_true,qdZ,List.mem_cons]
  constructor
  ·rintro(h|h)
   ·exact .inl (Nat.eq_of_beq_eq_true h).symm
   ·exact .inr h
  ·rintro(h|h)
   ·exact .inl (by rw[h];exact Nat.beq_refl _)
   ·exact .inr h
theorem qd3{t u:Nat}:∀{l:List Nat},u∈qgo t l↔u∈l/\u≠t
 |[]=>by simp[qgo]
 |m::r=>by
  unfold qgo
  cases hq:Nat.beq m t with
  |true=>
   have e:=Nat.eq_of_beq_eq_true hq
   rw[cond_true,qd3,List.mem_cons,e]
   constructor
   ·rintro⟨h1,h2⟩;exact⟨.inr h1,h2⟩
   ·rintro⟨h1,h2⟩;exact⟨h1.resolve_left h2,h2⟩
  |false=>
   have hne:=Nat.ne_of_beq_eq_false hq
   rw[cond_false,List.mem_cons,qd3,List.mem_cons]
   constructor
   ·rintro(h|⟨h1,h2⟩)
    ·exact⟨.inl h,by rw[h];exact hne⟩
    ·exact⟨.inr h1,h2⟩
   ·rintro⟨h1|h1,h2⟩
    ·exact .inl h1
    ·exact .inr ⟨h1,h2⟩
abbrev MD:=DataW Unit
structure qjb (D:MD) (kv:List (Int×Int)):Prop where
 has:∀n,Maps.has D (.int .i64 n)=(lkI kv n).isSome
 val:∀n z,D.atKey (.int .i64 n) z=match lkI kv n with|some v=>.lit (.int .i64 v)|none=>z
 size:Maps.size D=kv.length
 nd:(kv.map (·.1)).Nodup
theorem qiH{n k:Int}(h:k≠n):(Lit.int .i64 k)≠.int .i64 n:=λe=>h (by injection e)
theorem qjb.empty:qjb (.map []) []:=⟨λ_=>rfl,λ_ _=>rfl,rfl,List.nodup_nil⟩
theorem qjb.put{D:MD}{kv:List (Int×Int)}(h:qjb D kv)(hD:Maps.Tidy D){n:Int}(hk:WideAt.IsKeyLit (.int .i64 n))(v:Int):qjb (D.put (.int .i64 n) (.lit (.int .i64 v))) (qes kv n v):=by
 refine⟨λm=>?_,λm z=>?_,?_,qjC _ _ _ h.nd⟩
 ·by_cases e:m=n
  ·subst e;rw[Maps.has_put_same hD.isMap hk,qeg];rfl
  ·rw[Maps.has_put_other (qiH e),qdF e];exact h.has m
 ·by_cases e:m=n
  ·subst e;rw[Maps.atKey_put_same hD.isMap hk,qeg]
  ·rw[Maps.atKey_put_other (qiH e),qdF e];exact h.val m z
 ·rw[Maps.size_put hD,qim,h.has,h.size]
theorem qjb.del{D:MD}{kv:List (Int×Int)}(h:qjb D kv)(hD:Maps.Tidy D)(n:Int):qjb (D.del (.int .i64 n)) (qi3 kv n):=by
 refine⟨λm=>?_,λm z=>?_,?_,List.Sublist.nodup ((qnD kv n).map _) h.nd⟩
 ·by_cases e:m=n
  ·subst e;rw[Maps.has_del_same,qeh h.nd];rfl
  ·rw[Maps.has_del_other (qiH e),qdG e];exact h.has m
 ·by_cases e:m=n
  ·subst e;rw[Maps.atKey_del_same,qeh h.nd]
  ·rw[Maps.atKey_del_other (qiH e),qdG e];exact h.val m z
 ·have h1:=Maps.size_del hD (k:=.int .i64 n)
  have h2:=qi2 kv n
  rw[h.has,h.size]at h1
  omega
def qgA(P:Program)(w:World)(m:Ms)(b:Nat):Prop:=
 ∃D:MD,w.ownsMap P m.kt (plainElem P m.vt) b m.kv.length D/\qjb D m.kv
def qdM(P:Program)(w:World)(m:Ms)(b r:Nat)(lf:List Int):Prop:=
 ∃(D:MD) (left:Lit->Bool) (cnt:Nat),w.ranges P m.kt (plainElem P m.vt) b r m.kv.length D left cnt/\qjb D m.kv/\∀n,left (.int .i64 n)=true↔n∈lf
def MOKb(P:Program)(C:Ctx)(m:Ms)(os:Nat->Option Obj)(a:Act)(w:World)(H:FH)(Φ:Nat->qB)(b:Nat):Prop:=
 qN P m.kt (.int .i64)/\qN P m.vt (.int .i64)/\qaB C w H Φ os b/\qgA P w m b/\(∀t∈m.tm,a.tmps.getD t undef = .map (some b))/\
  ∀ti lf,m.it=some (ti,lf)->∃r,qaB C w H Φ os r/\qdM P w m b r lf/\(∀t∈ti,a.tmps.getD t undef = .pointer (some ⟨r,0,none⟩))/\
   ∀n v,m.cur=some (n,v)->(Instr.entry (.pointer (some ⟨r,0,none⟩))).run P w = .ok (.tuple #[.int .i64 n,.int .i64 v]) w
def MOK(P:Program)(C:Ctx)(m:Ms)(os:Nat->Option Obj)(a:Act)(w:World)(H:FH)(Φ:Nat->qB):Prop:=∃b,MOKb P C m os a w H Φ b
def qcP(P:Program)(C:Ctx)(mp:Option Ms)(os:Nat->Option Obj)(a:Act)(w:World)(H:FH)(Φ:Nat->qB):Prop:=
 match mp with
 |none=>True
 |some m=>MOK P C m os a w H Φ
def jX(P:Program)(C:Ctx)(s:St)(a:Act)(w:World):Prop:=∃H Φ,qg P C s a w H Φ/\qcP P C s.mp s.obj a w H Φ
section
variable {P:Program} {C:Ctx} {cfg:jG} {R:Type} {r:R} {s s':St} {a:Act} {w w':World} {H H':FH} {Φ Φ':Nat->qB}
theorem jX.sim(h:jX P C s a w):Sim P C s a w:=by obtain⟨H,Φ,h,_⟩:=h;exact⟨H,Φ,h⟩
theorem Sim.simM(h:Sim P C s a w)(hm:s.mp=none):jX P C s a w:=by obtain⟨H,Φ,h⟩:=h;exact⟨H,Φ,h,by rw[hm];trivial⟩
theorem qg.withM(h:qg P C s a w H Φ)(m:Option Ms):qg P C (s.withM m) a w H Φ:=h.congr rfl rfl
theorem qgA.block{m:Ms}{b:Nat}(h:qgA P w m b)(hb:w'.heap[b]? = w.heap[b]?):qgA P w' m b:=by
 obtain⟨D,⟨es,clock,h1,h2⟩,h3⟩:=h
 exact⟨D,⟨es,clock,hb.trans h1,h2⟩,h3⟩
theorem qdM.block{m:Ms}{b i:Nat}{lf:List Int}(h:qdM P w m b i lf)(hb:w'.heap[b]? = w.heap[b]?)(hi:w'.heap[i]? = w.heap[i]?):qdM P w' m b i lf:=by
 obtain⟨D,left,cnt,⟨es,clock,since,seen,c0,h1,h2,h3,h4,h5,h6⟩,h7⟩:=h
 exact⟨D,left,cnt,⟨es,clock,since,seen,c0,hb.trans h1,h2,h3,h4,hi.trans h5,h6⟩,h7⟩
def Owned(os:Nat->Option Obj)(Φ:Nat->qB)(b:Nat):Prop:=∃id o,os id=some o/\b∈(Φ id).fp
def reC(C:Ctx)(w:World)(H:FH)(os:Nat->Option Obj)(Φ:Nat->qB):Ctx:=⟨w,λb=>(C.M0 b\/C.w0.heap.size<=b)/\H b=none/\((∃c t f,w.heap[b]? = some (.cells c t f))\/Owned os Φ b),H,C.nt,C.pin,C.ds,C.gh⟩
theorem qgK{os:Nat->Option Obj}(hC:qz C cfg):qz (reC C w H os Φ) cfg:=⟨hC.nt,hC.pin⟩
theorem qh.ctx{C C':Ctx}{os:Nat->Option Obj}(hg:C'.gh=C.gh)(hp:C'.pin=C.pin)(hf:∀b,qaB C w H Φ os b->(∃c t f,w.heap[b]? = some (.cells c t f))->qaB C' w H Φ os b):∀{av:AV} {v:Value},qh P C w H Φ os av v->qh P C' w H Φ os av v
 |.dead,_,h=>h
 |.val _ _,_,h=>h
 |.ref _ _,_,h=>h
 |.ptr _ _,_,h=>h
 |.view _ _,_,h=>h
 |.upd id p tid e l,v,h=>by
  obtain⟨o,h1,h2,h3,h4,fp,h5,h6⟩:=h
  exact⟨o,h1,h2,h3,h4,fp,h5,λb hb=>⟨(h6 b hb).1,(h6 b hb).2.imp_left (λhh=>hf b hh (qm.cells _ (by simpa[Ty.noFn]using h2) h5 b hb))⟩⟩
 |.cut _ _ _ _,_,h=>h
 |.fn _ _ _,_,⟨vs,us,h1,h2,h3⟩=>⟨vs,us,h1,qh.ctx hg hp hf h2,qh.ctx hg hp hf h3⟩
 |.nil,_,h=>h
 |.gh _ _,_,⟨u,h1,h2⟩=>⟨u,by rw[hg];exact h1,qh.ctx hg hp hf h2⟩
 |.cv _ _ _,_,⟨b,cv,h1,h2⟩=>⟨b,cv,h1,by rw[hp];exact h2⟩
 |.cons _ _,_,⟨u,us,h1,h2,h3⟩=>⟨u,us,h1,qh.ctx hg hp hf h2,qh.ctx hg hp hf h3⟩
theorem qg.rebase(hs:qg P C s a w H Φ):qg P (reC C w H s.obj Φ) s a w H Φ:=by
 refine⟨hs.defers,hs.size,FH.le_refl _,hs.hok,λb c hb=>.inl hb,jM.refl _ _,?_,?_,hs.disj,hs.pins⟩
 ·intro t av ht
  exact qh.ctx (C:=C) (C':=reC C w H s.obj Φ) rfl rfl (λb hb hc=>(⟨hb.fz,hb.obj,.inl ⟨hb.may,hb.fz,.inl hc⟩,hb.lt⟩:qaB (reC C w H s.obj Φ) w H Φ s.obj b)) (hs.ts t av ht)
 ·intro id o ho
  have h:=hs.os id o ho
  exact⟨h.1,λb hb=>⟨(h.2 b hb).1,.inl ⟨(h.2 b hb).2.1,(h.2 b hb).1,.inr ⟨id,o,ho,hb⟩⟩,(h.2 b hb).2.2⟩⟩
theorem qg.unbase{a':Act}(hs:qg P C s a w H Φ)(h:qg P (reC C w H s.obj Φ) s' a' w' H' Φ'):qg P C s' a' w' H' Φ'/\
  ∀b,qaB C w H Φ s.obj b->(¬∃c t f,w.heap[b]? = some (.cells c t f))->qaB C w' H' Φ' s'.obj b/\w'.heap[b]? = w.heap[b]?:=by
 have hmay:∀b,(reC C w H s.obj Φ).M0 b\/(reC C w H s.obj Φ).w0.heap.size<=b->C.M0 b\/C.w0.heap.size<=b:=by
  rintro b (hb|hb)
  ·exact hb.1
  ·exact .inr (Nat.le_trans hs.mod.size hb)
 refine⟨⟨h.defers,h.size,FH.le_trans hs.le h.le,h.hok,?_,hs.mod.trans_new h.mod (λi hi=>hi.1),?_,?_,h.disj,h.pins⟩,?_⟩
 ·intro b c hb
  rcases h.hnew b c hb with h1|h1|h1
  ·exact hs.hnew b c h1
  ·exact .inr (hmay b (.inl h1))
  ·exact .inr (hmay b (.inr h1))
 ·intro t av ht
  exact qh.ctx (C:=reC C w H s.obj Φ) (C':=C) rfl rfl (λb hb _=>(⟨hb.fz,hb.obj,hmay b hb.may,hb.lt⟩:qaB C w' H' Φ' s'.obj b)) (h.ts t av ht)
 ·intro id o ho
  have h1:=h.os id o ho
  exact⟨h1.1,λb hb=>⟨(h1.2 b hb).1,hmay b (h1.2 b hb).2.1,(h1.2 b hb).2.2⟩⟩
 ·intro b hb hnc
  have hnm:¬(reC C w H s.obj Φ).M0 b:=λhh=>hh.2.2.elim hnc (λ⟨id,o,ho,hbf⟩=>hb.obj id o ho hbf)
  refine⟨⟨?_,?_,hb.may,Nat.lt_of_lt_of_le hb.lt h.mod.size⟩,h.mod.block b hb.lt hnm⟩
  ·cases hq:H' b with
   |none=>rfl
   |some c=>
    rcases h.hnew b c hq with h1|h1|h1
    ·have h1':H b=some c:=h1
     rw[hb.fz]at h1';cases h1'
    ·exact absurd h1 hnm
    ·have h1':w.heap.size<=b:=h1
     have:=hb.lt
     omega
  ·intro id o ho hbf
   rcases((h.os id o ho).2 b hbf).2.1 with h1|h1
   ·exact hnm h1
   ·have h1':w.heap.size<=b:=h1
    have:=hb.lt
    omega
theorem qgA.not_cells{m:Ms}{b:Nat}(h:qgA P w m b):¬∃c t f,w.heap[b]? = some (.cells c t f):=by
 obtain⟨D,⟨es,clock,h1,_⟩,_⟩:=h
 rintro⟨c,t,f,h2⟩
 rw[h1]at h2;cases h2
theorem qdM.not_cells{m:Ms}{b i:Nat}{lf:List Int}(h:qdM P w m b i lf):¬∃c t f,w.heap[i]? = some (.cells c t f):=by
 obtain⟨D,left,cnt,⟨es,clock,since,seen,c0,_,_,_,_,h5,_⟩,_⟩:=h
 rintro⟨c,t,f,h2⟩
 rw[h5]at h2;cases h2
theorem qbE{d:Option Nat}{v:Value}{t:Nat}(h:d≠some t):(a.put d v).tmps.getD t undef=a.tmps.getD t undef:=by
 cases d with
 |none=>rfl
 |some d=>
  have hne:d≠t:=λe=>h (by rw[e])
  simp only[Act.put,Array.getD_eq_getD_getElem?,Array.getElem?_setIfInBounds_ne hne]
theorem qe2{m:Ms}{d:Option Nat}{t:Nat}(h:t∈(m.strike d).tm):t∈m.tm/\d≠some t:=by
 cases d with
 |none=>exact⟨h,by simp⟩
 |some d=>
  have h2:=qd3.1 h
  exact⟨h2.1,λe=>h2.2 (by injection e with e;exact e.symm)⟩
theorem qjv{m:Ms}{d:Option Nat}{ti:List Nat}{lf:List Int}(h:(m.strike d).it=some (ti,lf)):∃ti',m.it=some (ti',lf)/\∀t∈ti,t∈ti'/\d≠some t:=by
 cases d with
 |none=>exact⟨ti,h,λt ht=>⟨ht,by simp⟩⟩
 |some d=>
  have h':(m.it.map λx=>(qgo d x.1,x.2))=some (ti,lf):=h
  obtain⟨⟨ti',lf'⟩,h1,h2⟩:=Option.map_eq_some_iff.1 h'
  simp only[Prod.mk.injEq]at h2
  obtain⟨rfl,rfl⟩:=h2
  exact⟨ti',h1,λt ht=>by
   have h3:=qd3.1 ht
   exact⟨h3.1,λe=>h3.2 (by injection e with e;exact e.symm)⟩⟩
theorem qck{m:Ms}{d:Option Nat}:(m.strike d).kt=m.kt/\(m.strike d).vt=m.vt/\(m.strike d).kv=m.kv/\(m.strike d).cur=m.cur:=by
 cases d<;>exact⟨rfl,rfl,rfl,rfl⟩
theorem MOKb.step{m:Ms}{os os':Nat->Option Obj}{d:Option Nat}{v:Value}{b:Nat}(h:MOKb P C m os a w H Φ b)
  (hk:∀b,qaB C w H Φ os b->(¬∃c t f,w.heap[b]? = some (.cells c t f))->qaB C w' H' Φ' os' b/\w'.heap[b]? = w.heap[b]?) {m':Ms} (hm:m'=(m.strike d).calm\/(w'=w/\m'=m.strike d)):
  MOKb P C m' os' (a.put d v) w' H' Φ' b:=by
 obtain⟨h1,h2,hb,hat,htm,hit⟩:=h
 obtain⟨k1,k2⟩:=hk b hb hat.not_cells
 have e:m'.kt=m.kt/\m'.vt=m.vt/\m'.kv=m.kv/\m'.tm=(m.strike d).tm/\m'.it=(m.strike d).it:=by
  rcases hm with rfl|⟨_,rfl⟩
  ·exact⟨qck.1,qck.2.1,qck.2.2.1,rfl,rfl⟩
  ·exact⟨qck.1,qck.2.1,qck.2.2.1,rfl,rfl⟩
 obtain⟨e1,e2,e3,e4,e5⟩:=e
 refine⟨by rw[e1];exact h1,by rw[e2];exact h2,k1,?_,?_,?_⟩
 ·have:=hat.block k2
  unfold qgA at this ⊢
  rw[e1,e2,e3];exact this
 ·intro t ht
  rw[e4]at ht
  obtain⟨q1,q2⟩:=qe2 ht
  rw[qbE q2]
  exact htm t q1
 ·intro ti lf hti
  rw[e5]at hti
  obtain⟨ti',q1,q2⟩:=qjv hti
  obtain⟨i,hi,hia,hit2,hcur⟩:=hit ti' lf q1
  obtain⟨k3,k4⟩:=hk i hi hia.not_cells
  refine⟨i,k3,?_,λt ht=>?_,λn u hc=>?_⟩
  ·have:=hia.block k2 k4
   unfold qdM at this ⊢
   rw[e1,e2,e3];exact this
  ·obtain⟨q3,q4⟩:=q2 t ht
   rw[qbE q4]
   exact hit2 t q3
  ·rcases hm with rfl|⟨rfl,rfl⟩
   ·cases hc
   ·exact hcur n u (by rw[<-(qck (m:=m) (d:=d)).2.2.2];exact hc)
theorem MOK.step{m:Ms}{os os':Nat->Option Obj}{d:Option Nat}{v:Value}(h:MOK P C m os a w H Φ)
  (hk:∀b,qaB C w H Φ os b->(¬∃c t f,w.heap[b]? = some (.cells c t f))->qaB C w' H' Φ' os' b/\w'.heap[b]? = w.heap[b]?) {m':Ms} (hm:m'=(m.strike d).calm\/(w'=w/\m'=m.strike d)):
  MOK P C m' os' (a.put d v) w' H' Φ':=by
 obtain⟨b,h⟩:=h
 exact⟨b,h.step hk hm⟩
theorem qe3{d:Option Nat}{v:Value}(hs:qg P C s a w H Φ)(hM:qcP P C s.mp s.obj a w H Φ)(h:Sim P (reC C w H s.obj Φ) s' (a.put d v) w'){mp:Option Ms}
  (hm:mp=none\/∃m m',s.mp=some m/\mp=some m'/\(m'=(m.strike d).calm\/(w'=w/\m'=m.strike d))):jX P C (s'.withM mp) (a.put d v) w':=by
 obtain⟨H',Φ',h⟩:=h
 obtain⟨k1,k2⟩:=hs.unbase h
 refine⟨H',Φ',k1.withM mp,?_⟩
 rcases hm with rfl|⟨m,m',e1,rfl,hm⟩
 ·trivial
 ·rw[e1]at hM
  exact MOK.step hM k2 hm
theorem qg.other(hs:qg P C s a w H Φ){b:Nat}(hb:qaB C w H Φ s.obj b)(hm:jM (· = b) w w'):qg P C (s.killIf AV.isUpd) a w' H Φ:=by
 have hne:∀j o,s.obj j=some o->∀c∈(Φ j).fp,c≠b:=λj o ho c hc e=>hb.obj j o ho (by rw[<-e];exact hc)
 have:=hs.changes (s':=s.killIf AV.isUpd) (ch:=λ_=>none) (F:=AV.isUpd) (w':=w') (H':=H) (λid x hx=>by cases hx) (λid=>rfl) (λt=>St.get_killIf _ _ _) (λid x hx=>by cases hx) (λ_ h=>h) (FH.le_refl _)
  (hs.hok.mod hm (λk hk=>by rw[hk];exact hb.fz)) hs.hnew (hs.mod.trans_new hm (λk hk=>by rw[hk];exact hb.may)) hm.size
  (λj o' _ ho c hc=>⟨hm.block c ((hs.os j o' ho).2 c hc).2.2 (hne j o' ho c hc),((hs.os j o' ho).2 c hc).1⟩) (λid x hx=>by cases hx) (λi j x y _ hx=>by cases hx)
 exact this
end
def qcQ(P:Program)(C:Ctx)(o:Oper)(a:Act)(w:World)(s':St):Prop:=
 match(execOp a.eval o).run P w with
 |.ok (.value v) w'=>jX P C s' (a.put o.dst v) w'
 |.ok .skip w'=>jX P C s' (a.put o.dst undef) w'
 |.ok (.enter f args) w'=>Calls P f args w' λe w''=>∃v,e = .returned v/\jX P C s' (a.put o.dst v) w''
 |_=>False
section
variable {P:Program} {C:Ctx} {cfg:jG} {R:Type} {r:R} {s s':St} {a:Act} {w w':World} {H H':FH} {Φ Φ':Nat->qB} {dst:Option Nat} {ty:TypeId} {pos:String} {after:Array Edge} {guard:Option (Nat×Bool)} {k:St->Option R}
theorem qb5{o:Oper}{v:Value}(hrun:(execOp a.eval o).run P w = .ok (.value v) w')(h:jX P C s' (a.put o.dst v) w'):qcQ P C o a w s':=by
 unfold qcQ;rw[hrun];exact h
theorem qmW{o:Oper}(hrun:(execOp a.eval o).run P w = .ok .skip w')(h:jX P C s' (a.put o.dst undef) w'):qcQ P C o a w s':=by
 unfold qcQ;rw[hrun];exact h
theorem qgV{o:Oper}(hs:qg P C s a w H Φ)(hM:qcP P C s.mp s.obj a w H Φ)(h:qaG P (reC C w H s.obj Φ) o a w s'){mp:Option Ms}(hm:mp=none\/∃m,s.mp=some m/\mp=some (m.strike o.dst).calm):qcQ P C o a w (s'.withM mp):=by
 have hm':∀w',mp=none\/∃m m',s.mp=some m/\mp=some m'/\(m'=(m.strike o.dst).calm\/(w'=w/\m'=m.strike o.dst)):=λw'=>hm.imp_right (λ⟨m,e1,e2⟩=>⟨m,_,e1,e2,.inl rfl⟩)
 unfold qaG at h
 unfold qcQ
 split at h
 ·rename_i v w' e;rw[e];exact qe3 hs hM h (hm' _)
 ·rename_i w' e;rw[e];exact qe3 hs hM h (hm' _)
 ·rename_i f args w' e
  rw[e]
  refine h.mono ?_
  rintro e w'' ⟨v,he,hsim⟩
  exact⟨v,he,qe3 hs hM hsim (hm' _)⟩
 ·exact h.elim
theorem qmg{o:Oper}(hs:qg P C s a w H Φ)(hM:qcP P C s.mp s.obj a w H Φ)(h:qah P (reC C w H s.obj Φ) o a w s'){mp:Option Ms}(hm:mp=none\/∃m,s.mp=some m/\mp=some (m.strike o.dst)):qcQ P C o a w (s'.withM mp):=by
 obtain⟨v,h1,h2⟩:=h
 exact qb5 (h1 w (jM.refl _ _)) (qe3 hs hM h2 (hm.imp_right (λ⟨m,e1,e2⟩=>⟨m,_,e1,e2,.inr ⟨rfl,rfl⟩⟩)))
theorem qe7(hs:qg P C s a w H Φ){x:Operand}{n:Int}(h:qgS s x=some n):a.eval x = .int .i64 n:=by
 unfold qgS at h
 split at h
 ·rename_i he
  cases h
  exact(qk hs qv he).int
 ·cases h
theorem qgi{n:Int}{k:Option R}(h:inI n k=some r):(Lit.int .i64 n).wf=true/\k=some r:=by
 rw[inI_eq]at h
 split at h
 ·rename_i hh
  refine⟨?_,h⟩
  have e1:IntKind.i64.min = -9223372036854775808:=by decide
  have e2:IntKind.i64.max=9223372036854775807:=by decide
  simp only[Lit.wf,e1,e2,Bool.and_eq_true,decide_eq_true_eq]
  exact hh
 ·cases h
theorem qc1{m:Ms}{x:Operand}{b:Nat}(htm:∀t∈m.tm,a.tmps.getD t undef = .map (some b))(h:qbX m x=true):a.eval x = .map (some b):=by
 cases x with
 |tmp t=>exact htm t (qdZ.1 h)
 |_=>cases h
theorem qmS{m:Ms}{x:Operand}(h:qei m x=true):∃t ti lf,x = .tmp t/\m.it=some (ti,lf)/\t∈ti:=by
 cases x with
 |tmp t=>
  unfold qei at h
  simp only at h
  split at h
  ·rename_i ti lf e;exact⟨t,ti,lf,rfl,e,qdZ.1 h⟩
  ·cases h
 |_=>cases h
theorem qmv(vt:TypeId)(hv:qN P vt (.int .i64)):plainElem (H:=Unit) P vt (.int .i64 0)=some (.lit (.int .i64 0),[]):=plainElem_int hv.int (by decide)
theorem qf9{k:TypeId}{Rd:Value->Option (MD×List MemPlace)}{b n:Nat}{D:MD}(h:w.ownsMap P k Rd b n D):w.ownsMap P k Rd b (Maps.size D) D:=by
 obtain⟨es,clock,h1,h2,_,rfl⟩:=h
 exact⟨es,clock,h1,h2,by simp[Maps.size,length_sorted],rfl⟩
theorem jM.of_grown{b:Nat}(h:w.grownBy w' (some b)):jM (· = b) w w':=⟨h.os,h.tape,h.output,h.size,λi hi hne=>h.block i hi (λe=>hne (by injection e))⟩
theorem jM.of_grown0(h:w.grownBy w' none):jM qV w w':=⟨h.os,h.tape,h.output,h.size,λi hi _=>h.block i hi (by simp)⟩
theorem qaB.keep{b c:Nat}(h:qaB C w H Φ s.obj c)(hm:jM (· = b) w w'):qaB C w' H Φ (s.killIf AV.isUpd).obj c:=⟨h.fz,h.obj,h.may,Nat.lt_of_lt_of_le h.lt hm.size⟩
theorem MOK.iter_at{m:Ms}{os:Nat->Option Obj}(h:MOK P C m os a w H Φ){x:Operand}(hx:qei m x=true):∃b ti lf i,m.it=some (ti,lf)/\a.eval x = .pointer (some ⟨i,0,none⟩)/\qaB C w H Φ os b/\(∀t∈m.tm,a.tmps.getD t undef = .map (some b))/\qaB C w H Φ os i/\qdM P w m b i lf/\
  (∀t∈ti,a.tmps.getD t undef = .pointer (some ⟨i,0,none⟩))/\∀n v,m.cur=some (n,v)->(Instr.entry (.pointer (some ⟨i,0,none⟩))).run P w = .ok (.tuple #[.int .i64 n,.int .i64 v]) w:=by
 obtain⟨t,ti,lf,rfl,hit,ht⟩:=qmS hx
 obtain⟨b,_,_,hb,hat,htm,hi⟩:=h
 obtain⟨i,h1,h2,h3,h4⟩:=hi ti lf hit
 exact⟨b,ti,lf,i,hit,h3 t ht,hb,htm,h1,h2,h3,h4⟩
theorem ql6(hcfg:qu P cfg)(hC:qz C cfg)(habs:∀{C':Ctx} {o:Oper} {k':St->Option R},qz C' cfg->qg P C' s a w H Φ->qF cfg.nt o.dst=true->qG cfg o s k'=some r->∃s',k' s'=some r/\(jU o=true->qah P C' o a w s')/\qaG P C' o a w s')
  {o:Oper} {m:Ms} (hs:qg P C s a w H Φ) (hmp:s.mp=some m) (hM:MOK P C m s.obj a w H Φ) (hd:qF cfg.nt o.dst=true) (h:qna cfg o s m k=some r):∃s',k s'=some r/\qcQ P C o a w s':=by
 have hM':qcP P C s.mp s.obj a w H Φ:=by rw[hmp];exact hM
 have hdC:qF C.nt o.dst=true:=by rw[hC.nt];exact hd
 have def1:∀{k':St->Option R},(k'=λs'=>k (s'.withM (some (bif jU o then m.strike o.dst else(m.strike o.dst).calm))))->qG cfg o s k'=some r->∃s',k s'=some r/\qcQ P C o a w s':=by
  rintro k' rfl h
  obtain⟨s',h1,h2,h3⟩:=habs (qgK hC) hs.rebase hd h
  cases hst:jU o with
  |true=>
   rw[hst,cond_true]at h1
   exact⟨_,h1,qmg hs hM' (h2 hst) (.inr ⟨m,hmp,rfl⟩)⟩
  |false=>
   rw[hst,cond_false]at h1
   exact⟨_,h1,qgV hs hM' h3 (.inr ⟨m,hmp,rfl⟩)⟩
 have same:∀{v:Value} {av:AV},qh P C w H Φ s.obj av v->(execOp a.eval o).run P w = .ok (.value v) w->qcQ P C o a w ((s.setDst o.dst av).withM (some (m.strike o.dst))):=by
  intro v av hv hrun
  refine qb5 hrun ⟨H,Φ,(hs.setDst hdC hv).withM _,?_⟩
  have ho:((s.setDst o.dst av).withM (some (m.strike o.dst))).obj=s.obj:=by unfold St.setDst;cases o.dst<;>rfl
  show MOK P C _ ((s.setDst o.dst av).withM (some (m.strike o.dst))).obj _ w H Φ
  rw[ho]
  exact MOK.step hM (λb hb _=>⟨hb,rfl⟩) (.inr ⟨rfl,rfl⟩)
 obtain⟨b,hk,hv,hb,⟨D,hown,hrel⟩,htm,hit⟩:=id hM
 have K:=Maps.int_keyed hk.int
 have move_case:∀(x:Operand),(o.op = .move x\/o.op = .assign x)->qG cfg o s (λs'=>k (s'.withM (some (bif qbX m x then(m.strike o.dst).add o.dst else m.strike o.dst))))=some r->∃s',k s'=some r/\qcQ P C o a w s':=by
  intro x hop h
  have hst:jU o=true:=by rcases hop with e|e<;>simp[jU,e]
  cases hq:qbX m x with
  |false=>
   rw[hq]at h
   exact def1 (by rw[hst];rfl) h
  |true=>
   rw[hq]at h
   simp only[cond_true]at h
   obtain⟨s',h1,h2,_⟩:=habs (qgK hC) hs.rebase hd h
   obtain⟨v,g1,H',Φ',g2⟩:=h2 hst
   have g1:=g1 w (jM.refl _ _)
   have hrun:(execOp a.eval o).run P w = .ok (.value (a.eval x)) w:=by
    obtain⟨dst,op,ty,pos,after,guard⟩:=o
    rcases hop with e|e<;>(simp only at e;subst e;rfl)
   rw[hrun]at g1
   have hv:v=a.eval x:=by injection g1 with g1 _;injection g1 with g1;exact g1.symm
   subst hv
   obtain⟨k1,k2⟩:=hs.unbase g2
   obtain⟨b,hM⟩:=id hM
   have hb:=hM.step (d:=o.dst) (v:=a.eval x) k2 (.inr ⟨rfl,rfl⟩)
   refine⟨_,h1,qb5 hrun ⟨H',Φ',k1.withM _,b,?_⟩⟩
   have hx:=qc1 hM.2.2.2.2.1 hq
   cases hdst:o.dst with
   |none=>rw[hdst]at hb;exact hb
   |some d=>
    rw[hdst]at hb hd
    obtain⟨q1,q2,q3,q4,q5,q6⟩:=hb
    refine⟨q1,q2,q3,q4,λt ht=>?_,q6⟩
    rcases List.mem_cons.1 ht with rfl|ht
    ·rw[qeK (by rw[hs.size,hC.nt];exact Eq.mp Nat.blt_eq hd),if_pos rfl]
     exact hx
    ·exact q5 t ht
 obtain⟨dst,op,ty,pos,after,guard⟩:=o
 simp only at hdC
 unfold qna at h
 split at h
 ·-- lookup
  rename_i T x i hop
  simp only at hop
  subst hop
  cases hq:qbX m x&&decide (lk cfg.maps T=some (m.kt,m.vt))with
  |false=>rw[hq]at h;cases h
  |true=>
  rw[hq,cond_true]at h
  rw[Bool.and_eq_true]at hq
  have hx:=qc1 htm hq.1
  obtain⟨hT,_,_⟩:=hcfg.maps T _ _ (of_decide_eq_true hq.2)
  split at h
  case h_2=>cases h
  rename_i n hn
  have hi:=qe7 hs hn
  obtain⟨hwf,h⟩:=qgi h
  obtain⟨v,ps,hrun,hRv⟩:=hown.look_ok K hT (hv.zeroValue w) (qmv m.vt hv) (Maps.keyOf_int_mk hk.int hwf)
  rw[hrel.val]at hRv
  rw[hrel.has]at hrun
  split at h
  ·rename_i u hu
   rw[hu]at hRv hrun
   obtain⟨c,rfl,hc,_⟩:=plainElem_int_inv hv.int hRv
   simp only[Prod.mk.injEq,DataW.lit.injEq,Lit.int.injEq,true_and]at hc
   obtain⟨rfl,_⟩:=hc
   exact⟨_,h,same (v:=.tuple #[.int .i64 u,.bool true]) ⟨.int .i64 u,[.bool true],rfl,qh.mk_int _ _ _ _ _ _,.bool true,[],rfl,qh.mk_bool _ _ _ _ _,rfl⟩ (by simp[execOp,hx,hi,hrun])⟩
  ·rename_i hu
   rw[hu]at hRv hrun
   obtain⟨c,rfl,hc,_⟩:=plainElem_int_inv hv.int hRv
   simp only[Prod.mk.injEq,DataW.lit.injEq,Lit.int.injEq,true_and]at hc
   obtain⟨rfl,_⟩:=hc
   exact⟨_,h,same (v:=.tuple #[.int .i64 0,.bool false]) ⟨.int .i64 0,[.bool false],rfl,qh.mk_int _ _ _ _ _ _,.bool false,[],rfl,qh.mk_bool _ _ _ _ _,rfl⟩ (by simp[execOp,hx,hi,hrun])⟩
 ·-- a store
  rename_i T x i y hop
  simp only at hop
  subst hop
  cases hq:qbX m x&&decide (lk cfg.maps T=some (m.kt,m.vt))with
  |false=>rw[hq]at h;cases h
  |true=>
  rw[hq,cond_true]at h
  rw[Bool.and_eq_true]at hq
  have hx:=qc1 htm hq.1
  obtain⟨hT,_,_⟩:=hcfg.maps T _ _ (of_decide_eq_true hq.2)
  split at h
  case h_2=>cases h
  rename_i n u hn hu
  have hi:=qe7 hs hn
  have hy:=qe7 hs hu
  obtain⟨hwf,h⟩:=qgi h
  obtain⟨hwf2,h⟩:=qgi h
  obtain⟨_,hlen,h⟩:=qco h
  have hkey:=Maps.keyOf_int_mk hk.int hwf
  obtain⟨w',hrun,hown',hturn⟩:=hown.store K hT (by unfold maxLen;omega) hkey (plainElem_int hv.int hwf2)
  have hmod:=jM.of_grown hturn.grown
  have hrel':=hrel.put (hown.tidy K) (K.key hkey) u
  refine⟨_,h,qmW (w':=w') (by simp[execOp,hx,hi,hy,hrun]) ⟨H,Φ,((hs.other hb hmod).setDst hdC (av:=.dead) (v:=undef) trivial).withM _,?_⟩⟩
  have ho:∀mm,((((s.killIf AV.isUpd).setDst dst .dead)).withM mm).obj=s.obj:=by intro mm;unfold St.setDst;cases dst<;>rfl
  show MOK P C _ _ _ _ _ _
  rw[ho]
  refine⟨b,hk,hv,hb.keep hmod,⟨_,?_,hrel'⟩,λt ht=>?_,λti lf e=>by cases e⟩
  ·rw[<-hrel'.size]
   exact qf9 hown'
  ·obtain⟨q1,q2⟩:=qe2 ht
   rw[qbE q2];exact htm t q1
 ·-- range
  rename_i T x hop
  simp only at hop
  subst hop
  split at h
  case h_2=>cases h
  rename_i d hdst
  simp only at hdst
  subst hdst
  cases hq:qbX m x&&decide (lk cfg.maps T=some (m.kt,m.vt))with
  |false=>rw[hq]at h;cases h
  |true=>
  rw[hq,cond_true]at h
  rw[Bool.and_eq_true]at hq
  have hx:=qc1 htm hq.1
  obtain⟨hT,_,_⟩:=hcfg.maps T _ _ (of_decide_eq_true hq.2)
  obtain⟨w',hrun,hrg,hgr,hsz⟩:=hown.range K hT
  have hmod:=jM.of_grown0 hgr
  have hs2:=(hs.grow hmod).set (d:=d) (av:=.dead) (v:=.pointer (some ⟨w.heap.size,0,none⟩)) (Eq.mp Nat.blt_eq hdC) trivial
  refine⟨_,h,qb5 (w':=w') (v:=.pointer (some ⟨w.heap.size,0,none⟩)) (by simp[execOp,hx,hrun]) ⟨H,Φ,hs2.withM _,?_⟩⟩
  have hfr:∀c,qaB C w H Φ s.obj c->qaB C w' H Φ s.obj c:=λc hc=>⟨hc.fz,hc.obj,hc.may,by have:=hc.lt;omega⟩
  refine⟨b,hk,hv,hfr b hb,⟨D,?_,hrel⟩,λt ht=>?_,?_⟩
  ·exact hrg.owns
  ·have ht':=qd3.1 ht
   rw[qbE (λe=>ht'.2 (by injection e with e;exact e.symm))]
   exact htm t ht'.1
  ·rintro ti lf e
   cases e
   refine⟨w.heap.size,⟨?_,?_,.inr hs.mod.size,by omega⟩,⟨D,_,_,hrg,hrel,λn=>?_⟩,λt ht=>?_,λn v e=>by cases e⟩
   ·cases hq:H w.heap.size with
    |none=>rfl
    |some c=>exact absurd (hs.hok.lt hq) (by omega)
   ·intro id o ho hbf
    have:=((hs.os id o ho).2 _ hbf).2.2
    omega
   ·rw[hrel.has];exact qmN
   ·rw[List.mem_singleton.1 ht]
    rw[qeK (by rw[hs.size];exact Eq.mp Nat.blt_eq hdC),if_pos rfl]
 ·-- next
  rename_i x hop
  simp only at hop
  subst hop
  cases hq:qei m x with
  |false=>rw[hq]at h;cases h
  |true=>
  rw[hq,cond_true]at h
  obtain⟨b2,ti0,lf0,i,hit0,hx,hb2,htm2,hi,hia,hti,hcur⟩:=hM.iter_at hq
  split at h
  case h_2=>cases h
  rename_i ti lf hti'
  obtain⟨ti'',e1,e2⟩:=qjv hti'
  rw[hit0]at e1
  obtain⟨rfl,rfl⟩:ti''=ti0/\lf=lf0:=by injection e1 with e1;injection e1 with e1 e2;exact⟨e1.symm,e2.symm⟩
  obtain⟨D2,left,cnt,hrg,hrel2,hleft⟩:=hia
  rcases hrg.next K ty with⟨_,hnone,hrun⟩|⟨key,val,kl,y,w',cnt',hkey,hlk,hRv,hat,hrun,hrg',_,hgr,hsz,hent⟩
  ·have hnil:lf=[]:=by
    match lf,hleft with
    |[],_=>rfl
    |n::l,hleft=>
     have:=(hleft n).2 (by simp)
     rw[hnone]at this;cases this
   subst hnil
   simp only at h
   refine⟨_,h,qb5 (w':=w) (v:=.tuple #[.bool false]) (by simp[execOp,hx,hrun]) ⟨H,Φ,(hs.setDst hdC (av:=.cons (.val .bool false) .nil) (v:=.tuple #[.bool false]) ⟨.bool false,[],rfl,qh.mk_bool _ _ _ _ _,rfl⟩).withM _,?_⟩⟩
   have ho:∀mm,(((s.setDst dst (.cons (.val .bool false) .nil))).withM mm).obj=s.obj:=by intro mm;unfold St.setDst;cases dst<;>rfl
   show MOK P C _ _ _ _ _ _
   rw[ho]
   exact MOK.step hM (λb hb _=>⟨hb,rfl⟩) (.inl rfl)
  ·obtain⟨n,rfl,rfl,hwf⟩:=Maps.keyOf_int_inv hk.int hkey
   have hmem:n∈lf:=(hleft n).1 hlk
   have h':(match lkI m.kv n with
    |some v=>k (((s.killIf AV.isUpd).setDst dst (.cons (.val .bool true) (.cons (avI n) (.cons (avI v) .nil)))).withM (some ⟨m.kt,m.vt,(m.strike dst).tm,m.kv,some (ti,qi0 n lf),some (n,v)⟩))
    |none=>none)=some r:=by
    split at h
    ·cases hmem
    ·exact qeN h n hmem
   obtain⟨v0,hv0⟩:∃v0,lkI m.kv n=some v0:=by
    cases hq:lkI m.kv n with
    |none=>rw[hq]at h';cases h'
    |some v0=>exact⟨v0,rfl⟩
   rw[hv0]at h'
   have hval:=hat (.lit (.int .i64 0))
   rw[hrel2.val,hv0]at hval
   simp only at hval
   obtain⟨y1,y2⟩:=y
   simp only at hval
   subst hval
   obtain⟨c,rfl,hc,_⟩:=plainElem_int_inv hv.int hRv
   simp only[Prod.mk.injEq,DataW.lit.injEq,Lit.int.injEq,true_and]at hc
   obtain⟨rfl,_⟩:=hc
   have hmod:=jM.of_grown hgr
   refine⟨_,h',qb5 (w':=w') (v:=.tuple #[.bool true,.int .i64 n,.int .i64 v0]) (by simp[execOp,hx,hrun])
    ⟨H,Φ,((hs.other hi hmod).setDst hdC (av:=.cons (.val .bool true) (.cons (avI n) (.cons (avI v0) .nil))) (v:=.tuple #[.bool true,.int .i64 n,.int .i64 v0])
     ⟨.bool true,[.int .i64 n,.int .i64 v0],rfl,qh.mk_bool _ _ _ _ _,.int .i64 n,[.int .i64 v0],rfl,qh.mk_int _ _ _ _ _ _,.int .i64 v0,[],rfl,qh.mk_int _ _ _ _ _ _,rfl⟩).withM _,?_⟩⟩
   have ho:∀av mm,((((s.killIf AV.isUpd).setDst dst av)).withM mm).obj=s.obj:=by intro av mm;unfold St.setDst;cases dst<;>rfl
   show MOK P C _ _ _ _ _ _
   rw[ho]
   refine⟨b2,hk,hv,hb2.keep hmod,⟨D2,hrg'.owns,hrel2⟩,λt ht=>?_,?_⟩
   ·obtain⟨q1,q2⟩:=qe2 ht
    rw[qbE q2];exact htm2 t q1
   ·rintro ti3 lf3 e
    cases e
    refine⟨i,hi.keep hmod,⟨D2,_,cnt',hrg',hrel2,λj=>?_⟩,λt ht=>?_,?_⟩
    ·rw[Bool.and_eq_true,hleft,qg3]
     refine and_congr_right (λ_=>?_)
     constructor
     ·intro hs2 e
      subst e
      rw[WideAt.sameKey_self (K.key hkey)]at hs2
      cases hs2
     ·intro hne
      rw[Maps.sameKey_ne (qiH hne)];rfl
    ·obtain⟨q1,q2⟩:=e2 t ht
     rw[qbE q2];exact hti t q1
    ·rintro n2 v2 e
     cases e
     exact hent
 ·-- entry
  rename_i x hop
  simp only at hop
  subst hop
  cases hq:qei m x with
  |false=>rw[hq]at h;cases h
  |true=>
  rw[hq,cond_true]at h
  obtain⟨b2,ti0,lf0,i,hit0,hx,hb2,htm2,hi,hia,hti,hcur⟩:=hM.iter_at hq
  split at h
  case h_2=>cases h
  rename_i n v hc
  have hrun:=hcur n v hc
  exact⟨_,h,same (v:=.tuple #[.int .i64 n,.int .i64 v]) ⟨.int .i64 n,[.int .i64 v],rfl,qh.mk_int _ _ _ _ _ _,.int .i64 v,[],rfl,qh.mk_int _ _ _ _ _ _,rfl⟩ (by simp[execOp,hx,hrun])⟩
 ·-- a call
  rename_i c hop
  simp only at hop
  subst hop
  split at h
  ·-- len
   rename_i hc
   split at h
   case h_2=>cases h
   rename_i x T hxl hTl
   cases hq:qbX m x&&decide (lk cfg.maps T=some (m.kt,m.vt))with
   |false=>
    rw[hq,cond_false]at h
    have hst:jU ⟨dst,.call c,ty,pos,after,guard⟩=true:=by simp[jU,hc]
    exact def1 (by rw[hst];rfl) h
   |true=>
    rw[hq,cond_true]at h
    rw[Bool.and_eq_true]at hq
    have hx:=qc1 htm hq.1
    obtain⟨hT,_,_⟩:=hcfg.maps T _ _ (of_decide_eq_true hq.2)
    have hrun:=hown.len hT ty
    rw[hrel.size]at hrun
    have e2:c=⟨.builtin .len,#[x],#[T]⟩:=by
     obtain⟨c1,c2,c3⟩:=c
     simp only at hc hxl hTl
     rw[hc,<-Array.toArray_toList (xs:=c2),hxl,<-Array.toArray_toList (xs:=c3),hTl]
    subst e2
    exact⟨_,h,same (qh.mk_int w H Φ s.obj .i64 m.kv.length) (by simp[execOp,resolve,invoke,builtin,hx,hrun])⟩
  ·-- delete
   rename_i hc
   split at h
   case h_2=>cases h
   rename_i x i T T' hxl hTl
   cases hq:qbX m x&&decide (lk cfg.maps T=some (m.kt,m.vt))&&Nat.beq T' m.kt with
   |false=>rw[hq]at h;cases h
   |true=>
   rw[hq,cond_true]at h
   rw[Bool.and_eq_true,Bool.and_eq_true]at hq
   have hx:=qc1 htm hq.1.1
   have hT':=Nat.eq_of_beq_eq_true hq.2
   subst hT'
   obtain⟨hT,_,_⟩:=hcfg.maps T _ _ (of_decide_eq_true hq.1.2)
   split at h
   case h_2=>cases h
   rename_i n hn
   have hi:=qe7 hs hn
   obtain⟨hwf,h⟩:=qgi h
   have hkey:=Maps.keyOf_int_mk hk.int hwf
   obtain⟨w',hrun,hown',hturn⟩:=hown.drop K hT hkey ty
   have hmod:=jM.of_grown hturn.grown
   have hrel':=hrel.del (hown.tidy K) n
   have e2:c=⟨.builtin .delete,#[x,i],#[T,m.kt]⟩:=by
    obtain⟨c1,c2,c3⟩:=c
    simp only at hc hxl hTl
    rw[hc,<-Array.toArray_toList (xs:=c2),hxl,<-Array.toArray_toList (xs:=c3),hTl]
   subst e2
   refine⟨_,h,qb5 (w':=w') (v:=.tuple #[]) (by simp[execOp,resolve,invoke,builtin,hx,hi,hrun]) ⟨H,Φ,((hs.other hb hmod).setDst hdC (av:=.nil) (v:=.tuple #[]) rfl).withM _,?_⟩⟩
   have ho:∀mm,((((s.killIf AV.isUpd).setDst dst .nil)).withM mm).obj=s.obj:=by intro mm;unfold St.setDst;cases dst<;>rfl
   show MOK P C _ _ _ _ _ _
   rw[ho]
   refine⟨b,hk,hv,hb.keep hmod,⟨_,?_,hrel'⟩,λt ht=>?_,λti lf e=>by cases e⟩
   ·rw[<-hrel'.size]
    exact qf9 hown'
   ·obtain⟨q1,q2⟩:=qe2 ht
    rw[qbE q2];exact htm t q1
  ·exact def1 rfl h
 ·rename_i x hop
  simp only at hop
  subst hop
  exact move_case x (.inl rfl) h
 ·rename_i x hop
  simp only at hop
  subst hop
  exact move_case x (.inr rfl) h
 ·exact def1 rfl h
end
end Go.Vi
namespace Go.Vi
def qdu(cfg:jG)(o:Oper):Bool:=jU o||match o.op with
 |.call c=>match c.callee with
  |.value (.func f)=>match lk cfg.prims f with
   |some p=>qik p&&((lk cfg.alts f).isNone&&(o.dst.bind (lk cfg.inl)).isNone)
   |none=>false
  |_=>false
 |_=>false
section
variable {P:Program} {C:Ctx} {cfg:jG} {R:Type} {r:R} {s:St} {a:Act} {w:World} {H:FH} {Φ:Nat->qB}
theorem qcG(hcfg:qu P cfg)(hC:qz C cfg){o:Oper}{k:St->Option R}(hs:Sim P C s a w)(hd:qF cfg.nt o.dst=true)(hq:jU o=true)(h:qG cfg o s k=some r):∃s',k s'=some r/\qah P C o a w s':=by
 obtain⟨H,Φ,hs⟩:=hs
 obtain⟨dst,op,ty,pos,after,guard⟩:=o
 cases op
 case move=>exact op_move hcfg hC hs hd h
 case assign=>exact qn4 hcfg hC hs hd h
 case pick=>exact op_pick hcfg hC hs hd h
 case load=>exact op_load hcfg hC hs hd h
 case nilCheck=>exact qlo hcfg hC hs hd h
 case binOp=>exact op_binOp hcfg hC hs hd h
 case unOp=>exact op_unOp hcfg hC hs hd h
 case convert=>exact qmC hcfg hC hs hd h
 case fieldAddr=>exact qks hcfg hC hs hd h
 case indexAddr=>exact qkr hcfg hC hs hd h
 case extract=>exact qmB hcfg hC hs hd h
 case slice=>exact op_slice hcfg hC hs hd h
 case lookup=>exact qn1 hcfg hC hs hd h
 case entry=>exact op_entry hC hs hd h
 case build=>exact op_build hcfg hC hs hd h
 case typeAssert=>exact qfl hcfg hC hs hd h
 case makeFunc fn first caps=>
  cases fn
  case func f=>exact qlq hcfg hC hs hd h
  all_goals cases hq
 case call c=>
  simp only[jU]at hq
  split at hq
  ·rename_i hc;exact op_len hcfg hC hc hs hd h
  ·rename_i hc;exact op_max hcfg hC hc hs hd h
  ·rename_i hc;exact op_min hcfg hC hc hs hd h
  ·cases hq
 all_goals cases hq
theorem ql5(hcfg:qu P cfg)(hC:qz C cfg){o:Oper}{k:St->Option R}(hs:Sim P C s a w)(hd:qF cfg.nt o.dst=true)(hq:qdu cfg o=true)(h:qG cfg o s k=some r):∃s',k s'=some r/\Quiet P C o a w s':=by
 unfold qdu at hq
 cases hst:jU o with
 |true=>
  obtain⟨s',h1,h2⟩:=qcG hcfg hC hs hd hst h
  exact⟨s',h1,h2.quiet⟩
 |false=>
  rw[hst,Bool.false_or]at hq
  obtain⟨H,Φ,hs⟩:=hs
  obtain⟨dst,op,ty,pos,after,guard⟩:=o
  cases op
  case call c=>
   simp only at hq
   split at hq
   ·rename_i f hc
    split at hq
    ·rename_i p hp
     rw[Bool.and_eq_true,Bool.and_eq_true]at hq
     exact op_callq hcfg hC hc hp (Option.isNone_iff_eq_none.1 hq.2.2) (Option.isNone_iff_eq_none.1 hq.2.1) hq.1 hs hd h
    ·cases hq
   ·cases hq
  all_goals cases hq
theorem qm9(hcfg:qu P cfg)(hC:qz C cfg){o:Oper}{k:St->Option R}(hs:Sim P C s a w)(hd:qF cfg.nt o.dst=true)(h:qG cfg o s k=some r):∃s',k s'=some r/\qaG P C o a w s':=by
 cases hst:jU o with
 |true=>
  obtain⟨s',h1,h2⟩:=qcG hcfg hC hs hd hst h
  exact⟨s',h1,h2.quiet.goes⟩
 |false=>
 obtain⟨H,Φ,hs⟩:=hs
 obtain⟨dst,op,ty,pos,after,guard⟩:=o
 cases op
 case alloc=>exact op_alloc hcfg hC hs hd h
 case box=>exact op_box hcfg hC hs hd h
 case store=>exact op_store hcfg hC hs hd h
 case makeSlice=>exact qkq hcfg hC hs hd h
 case buildSlice=>exact qjk hcfg hC hs hd h
 case makeMap=>exact qmA hcfg hC hs hd h
 case mapUpdate=>exact qga hcfg hC hs hd (.inl rfl) h
 case insert=>exact qga hcfg hC hs hd (.inr rfl) h
 case range=>exact op_range hcfg hC hs hd h
 case next=>exact op_next hcfg hC hs hd h
 case makeInterface=>exact qgM hcfg hC hs hd h
 case typeAssert=>exact let⟨s',h1,h2⟩:=qfl hcfg hC hs hd h;⟨s',h1,h2.quiet.goes⟩
 case call c=>
  match hc:c.callee with
  |.value f=>exact op_callv hcfg hC hc hs hd h
  |.invoke _ _=>exact qn0 hcfg hC hc hs hd h
  |.builtin b=>
   cases b
   case append=>exact qn5 hcfg hC hc hs hd h
   case copy=>exact op_copy hcfg hC hc hs hd h
   case clear=>exact op_clear hcfg hC hc hs hd h
   case len=>simp[jU,hc]at hst
   case max=>simp[jU,hc]at hst
   case min=>simp[jU,hc]at hst
   all_goals simp[qG,hc]at h
 all_goals first|(simp[jU]at hst;done)|(simp only[qG]at h;cases h;done)|(rename_i fn _ _;cases fn<;>first|(simp[jU]at hst;done)|(simp only[qG]at h;cases h;done))
theorem qfT(hcfg:qu P cfg)(hC:qz C cfg){o:Oper}{k:St->Option R}(hs:qg P C s a w H Φ)(hd:qF cfg.nt o.dst=true)(h:qG cfg o s k=some r):∃s',k s'=some r/\(jU o=true->qah P C o a w s')/\qaG P C o a w s':=by
 cases hst:jU o with
 |true=>
  obtain⟨s',h1,h2⟩:=qcG hcfg hC ⟨H,Φ,hs⟩ hd hst h
  exact⟨s',h1,λ_=>h2,h2.quiet.goes⟩
 |false=>
  obtain⟨s',h1,h2⟩:=qm9 hcfg hC ⟨H,Φ,hs⟩ hd h
  exact⟨s',h1,(λe=>by cases e),h2⟩
theorem Sim.withM(h:Sim P C s a w)(m:Option Ms):Sim P C (s.withM m) a w:=by obtain⟨H,Φ,h⟩:=h;exact⟨H,Φ,h.withM m⟩
theorem qdz(hcfg:qu P cfg)(hC:qz C cfg){o:Oper}{k:St->Option R}(hs:jX P C s a w)(hd:qF cfg.nt o.dst=true)(h:qcu cfg o s k=some r):∃s',k s'=some r/\qcQ P C o a w s':=by
 obtain⟨H,Φ,hs,hM⟩:=hs
 unfold qcu at h
 split at h
 ·rename_i hmp
  split at h
  ·rename_i T hop
   split at h
   case h_2=>
    obtain⟨s',h1,_,h3⟩:=qfT hcfg (qgK hC) hs.rebase hd h
    exact⟨_,h1,qgV hs hM h3 (.inl rfl)⟩
   rename_i d kt vt hdst hT
   obtain⟨hu,hk,hv⟩:=hcfg.maps T kt vt hT
   have hdl:d<C.nt:=by rw[hdst]at hd;rw[hC.nt];exact Eq.mp Nat.blt_eq hd
   have hmod:=qb4 w (.map #[] 0)
   have hs2:=(hs.grow hmod).set (d:=d) (av:=.dead) (v:=.map (some w.heap.size)) hdl trivial
   have hrun:(execOp a.eval o).run P w = .ok (.value (.map (some w.heap.size))) (w.alloc (.map #[] 0)):=by
    obtain⟨dst,op,ty,pos,after,guard⟩:=o
    simp only at hop
    subst hop
    simp[execOp,RowKit.run_makeMap]
   refine⟨_,h,qb5 hrun ?_⟩
   rw[hdst]
   refine⟨H,Φ,hs2.withM _,w.heap.size,hk,hv,⟨?_,?_,.inr hs.mod.size,by simp⟩,⟨.map [],World.ownsMap_made _ _ _ _,qjb.empty⟩,λt ht=>?_,λti lf e=>by cases e⟩
   ·cases hq:H w.heap.size with
    |none=>rfl
    |some c=>exact absurd (hs.hok.lt hq) (by omega)
   ·intro id o ho hbf
    have:=((hs.os id o ho).2 _ hbf).2.2
    omega
   ·rw[List.mem_singleton.1 ht]
    rw[qeK (by rw[hs.size];exact hdl),if_pos rfl]
  ·obtain⟨s',h1,_,h3⟩:=qfT hcfg (qgK hC) hs.rebase hd h
   exact⟨_,h1,qgV hs hM h3 (.inl rfl)⟩
 ·rename_i m hmp
  rw[hmp]at hM
  exact ql6 hcfg hC (λhC' hs' hd' h'=>qfT hcfg hC' hs' hd' h') hs hmp hM hd h
theorem qeT(hmp:s.mp=none){o:Oper}(hq:qdu cfg o=true){k:St->Option R}:qcu cfg o s k=qG cfg o s λs'=>k (s'.withM none):=by
 unfold qcu
 rw[hmp]
 simp only
 split
 ·rename_i hop
  simp[qdu,jU,hop]at hq
 ·rfl
theorem qg.know(hs:qg P C s a w H Φ){t:Nat}{av:AV}(hv:qh P C w H Φ s.obj av (a.tmps.getD t undef)):qg P C (s.set t av) a w H Φ:=by
 refine hs.weaken (λ_ _ h=>h) ?_
 intro u av' hu
 rw[St.get_set]at hu
 split at hu
 ·rename_i e;subst e;cases hu;exact hv
 ·exact hs.ts u av' hu
theorem skip_obj(d:Option Nat):(s.skip d).obj=s.obj:=by unfold St.skip St.setDst;cases d<;>rfl
theorem jX.dead(hC:qz C cfg)(hs:jX P C s a w){d:Option Nat}(hd:qF cfg.nt d=true):jX P C (s.skip d) (a.put d undef) w:=by
 obtain⟨H,Φ,hs,hM⟩:=hs
 refine⟨H,Φ,(hs.setDst (by rw[hC.nt];exact hd) (av:=.nil) rfl).withM _,?_⟩
 rw[skip_obj]
 show qcP P C (s.mp.map λm=>m.strike d) s.obj _ w H Φ
 cases hmp:s.mp with
 |none=>trivial
 |some m=>
  rw[hmp]at hM
  exact MOK.step hM (λb hb _=>⟨hb,rfl⟩) (.inr ⟨rfl,rfl⟩)
theorem qbY{ops:Array Oper}{o:Oper}{rest:List Oper}{kk:St->Option R}(hs:jX P C s a w)(h:qau cfg ops kk (o::rest) s=some r):
  qF cfg.nt o.dst=true/\((Region.wanted o (yielded ops a.tmps)=true/\∃s2,(jX P C s2 a w/\(s.mp=none->s2.mp=none))/\qcu cfg o s2 (λs=>qau cfg ops kk rest s)=some r)\/
   (Region.wanted o (yielded ops a.tmps)=false/\∃s2,(jX P C s2 a w/\(s.mp=none->s2.mp=none))/\qau cfg ops kk rest (s2.skip o.dst)=some r)):=by
 simp only[qau]at h
 cases hd:qF cfg.nt o.dst with
 |false=>rw[hd]at h;cases h
 |true=>
 rw[hd,cond_true]at h
 refine⟨rfl,?_⟩
 unfold Region.wanted
 split at h
 ·rename_i hg
  rw[hg]
  exact .inl ⟨rfl,s,⟨hs,id⟩,h⟩
 ·rename_i j want hg
  rw[hg]
  split at h
  ·cases h
  ·rename_i t ht
   split at h
   ·rename_i b hb
    obtain⟨H,Φ,hs,hM⟩:=hs
    have hr:=hs.ts t _ hb
    have hv:=hr.bool
    have hy:yielded ops a.tmps j=some b:=by
     unfold yielded
     rw[ht]
     simp only[Option.bind_some]
     rw[Array.getD_eq_getD_getElem?]at hv
     cases hq:a.tmps[t]? with
     |none=>rw[hq]at hv;simp[undef]at hv
     |some u=>
      rw[hq]at hv
      simp only[Option.getD_some]at hv
      rw[hv]
    simp only[hy]
    have hs2:jX P C (s.set t (.val .bool b)) a w/\(s.mp=none->(s.set t (.val .bool b)).mp=none):=⟨⟨H,Φ,hs.know hr,hM⟩,λh=>h⟩
    cases b with
    |true=>
     simp only[cond_true]at h
     cases want with
     |true=>exact .inl ⟨rfl,_,hs2,h⟩
     |false=>exact .inr ⟨rfl,_,hs2,h⟩
    |false=>
     simp only[cond_false]at h
     cases want with
     |true=>exact .inr ⟨rfl,_,hs2,h⟩
     |false=>exact .inl ⟨rfl,_,hs2,h⟩
   ·rename_i hb
    obtain⟨H,Φ,hs,hM⟩:=hs
    have hv:a.tmps.getD t undef = .tuple #[]:=hs.ts t _ hb
    have hy:yielded ops a.tmps j=none:=by
     unfold yielded
     rw[ht]
     simp only[Option.bind_some]
     rw[Array.getD_eq_getD_getElem?]at hv
     cases hq:a.tmps[t]? with
     |none=>rfl
     |some u=>
      rw[hq]at hv
      simp only[Option.getD_some]at hv
      rw[hv]
    simp only[hy]
    exact .inr ⟨by simp,s,⟨⟨H,Φ,hs,hM⟩,id⟩,h⟩
   ·cases h
theorem qew{o:Oper}{s':St}{K:Act->World->Prop}{Q:Exit->Act->World->Prop}(h:qcQ P C o a w s')(hK:∀a w,jX P C s' a w->K a w):o.wp P a w K Q:=by
 unfold qcQ at h
 unfold Oper.wp Oper.upon
 split at h
 ·rename_i v w' e;rw[e];exact hK _ _ h
 ·rename_i w' e;rw[e];exact hK _ _ h
 ·rename_i f args w' e
  rw[e]
  refine h.mono ?_
  rintro e w'' ⟨v,rfl,hsim⟩
  exact hK _ _ hsim
 ·exact h.elim
theorem qko(hcfg:qu P cfg)(hC:qz C cfg){ops:Array Oper}{kk:St->Option R}{Q:Exit->Act->World->Prop}(hQ:∀s a w,jX P C s a w->kk s=some r->Q .normal a w):
  ∀{l:List Oper} {s:St} {a:Act} {w:World},jX P C s a w->qau cfg ops kk l s=some r->wpList P ops Q l a w
 |[],s,a,w,hs,h=>hQ s a w hs h
 |o::rest,s,a,w,hs,h=>by
  obtain⟨hd,h⟩:=qbY hs h
  unfold wpList
  rcases h with⟨hw,s2,⟨hs2,_⟩,h⟩|⟨hw,s2,⟨hs2,_⟩,h⟩
  ·rw[hw,if_pos rfl]
   obtain⟨s',h,hg⟩:=qdz hcfg hC hs2 hd h
   exact .inl (qew hg (λa w hs=>qko hcfg hC hQ hs h))
  ·rw[hw,if_neg (by simp)]
   exact qko hcfg hC hQ (hs2.dead hC hd) h
theorem qgL(hcfg:qu P cfg)(hC:qz C cfg){ops:Array Oper}{kk:St->Option R}{K:Act->Prop}(hK:∀s a,Sim P C s a w->s.mp=none->kk s=some r->K a):
  ∀{l:List Oper} {s:St} {a:Act},l.all (qdu cfg)=true->Sim P C s a w->s.mp=none->qau cfg ops kk l s=some r->wpQuiet P ops (jM qV w) K l a
 |[],s,a,_,hs,hmp,h=>hK s a hs hmp h
 |o::rest,s,a,hq,hs,hmp,h=>by
  simp only[List.all_cons,Bool.and_eq_true]at hq
  obtain⟨hd,h⟩:=qbY (hs.simM hmp) h
  unfold wpQuiet
  rcases h with⟨hw,s2,⟨hs2,hm2⟩,h⟩|⟨hw,s2,⟨hs2,hm2⟩,h⟩
  ·rw[hw,if_pos rfl]
   rw[qeT (hm2 hmp) hq.1]at h
   obtain⟨s',h,v,hv,hsim⟩:=ql5 hcfg hC hs2.sim hd hq.1 h
   exact⟨v,hv,qgL hcfg hC hK hq.2 (hsim.withM none) rfl h⟩
  ·rw[hw,if_neg (by simp)]
   exact qgL hcfg hC hK hq.2 (hs2.dead hC hd).sim (by show Option.map _ _=none;rw[hm2 hmp];rfl) h
theorem qdX{o:Oper}(h:jU o=true):qdu cfg o=true:=by unfold qdu;rw[h];rfl
theorem qe5(hcfg:qu P cfg)(hC:qz C cfg){ops:Array Oper}{kk:St->Option R}{K:Act->Prop}{l2:List Oper}(hK:∀s a,Sim P C s a w->s.mp=none->qau cfg ops kk l2 s=some r->K a):
  ∀{l:List Oper} {s:St} {a:Act},l.all jU=true->Sim P C s a w->s.mp=none->qau cfg ops kk (l++l2) s=some r->wpStill P ops w K l a
 |[],s,a,_,hs,hmp,h=>hK s a hs hmp h
 |o::rest,s,a,hq,hs,hmp,h=>by
  simp only[List.all_cons,Bool.and_eq_true]at hq
  obtain⟨hd,h⟩:=qbY (hs.simM hmp) h
  unfold wpStill
  rcases h with⟨hw,s2,⟨hs2,hm2⟩,h⟩|⟨hw,s2,⟨hs2,hm2⟩,h⟩
  ·rw[hw,if_pos rfl]
   rw[qeT (cfg:=cfg) (hm2 hmp) (qdX hq.1)]at h
   obtain⟨s',h,v,hv,hsim⟩:=qcG hcfg hC hs2.sim hd hq.1 h
   unfold Oper.still
   rw[hv w (jM.refl _ _)]
   exact⟨rfl,qe5 hcfg hC hK hq.2 (hsim.withM none) rfl h⟩
  ·rw[hw,if_neg (by simp)]
   exact qe5 hcfg hC hK hq.2 (hs2.dead hC hd).sim (by show Option.map _ _=none;rw[hm2 hmp];rfl) h
def drawR(cfg:jG)(ops:Array Oper):Bool:=
 (ops.toList.all (qdu cfg)&&Region.lexB .any ops)||(List.range ops.size).any λn=>(ops.toList.take n).all jU&&Region.lexTailB .any ops n
theorem qbu(w:World):jM qV w {w with drawn:=w.drawn+1}:=⟨rfl,rfl,rfl,Nat.le_refl _,λ_ _ _=>rfl⟩
theorem qnR(hm:P.follows .mixedOrders=true)(hcfg:qu P cfg)(hC:qz C cfg){id:Nat}{ops:Array Oper}{draw:Bool}(hdraw:draw=true->drawR cfg ops=true/\s.mp=none){kk:St->Option R}{Q:Exit->Act->World->Prop}(hQ:∀s a w,jX P C s a w->kk s=some r->Q .normal a w)
  (hs:jX P C s a w) (h:qau cfg ops kk ops.toList s=some r):(Code.region id ops draw).wp P Q a w:=by
 cases draw with
 |false=>exact wp_region_list (qko hcfg hC hQ hs h)
 |true=>
  obtain⟨hd,hmp⟩:=hdraw rfl
  unfold drawR at hd
  rw[Bool.or_eq_true]at hd
  have hs1:Sim P C s a {w with drawn:=w.drawn+1}:=hs.sim.grow (qbu w)
  rcases hd with hd|hd
  ·rw[Bool.and_eq_true]at hd
   exact wp_region_quiet (C:=jM qV {w with drawn:=w.drawn+1}) hm hd.2 (jM.refl _ _)
    (qgL hcfg hC (λs a hsim hmp hk w' hm'=>hQ s a w' ((hsim.grow hm').simM hmp) hk) hd.1 hs1 hmp h)
  ·obtain⟨n,_,hn⟩:=List.any_eq_true.1 hd
   rw[Bool.and_eq_true]at hn
   have:=wp_region_still_tail (P:=P) (id:=id) (Q:=Q) (a:=a) (w:=w) (l:=ops.toList) n hm (by simpa using hn.2)
    (by
     simp only[Array.toArray_toList]
     exact qe5 hcfg hC (l2:=ops.toList.drop n) (λs a hsim hmp hk=>qko hcfg hC hQ (hsim.simM hmp) hk) hn.1 hs1 hmp (by rw[List.take_append_drop];exact h))
   simpa using this
theorem any_step(hcfg:qu P cfg)(hC:qz C cfg){ops:Array Oper}{K:Act->World->Prop}{kk:St->Option R}{Q:Exit->Act->World->Prop}{i:Nat}(hK:∀s a w,jX P C s a w->kk s=some r->K a w)
  (hs:jX P C s a w) (h:qau cfg ops kk (qfm ops i) s=some r):wpOp P ops Q i K a w:=by
 unfold wpOp
 unfold qfm at h
 cases ho:ops[i]? with
 |none=>rw[ho]at h;exact hK _ _ _ hs h
 |some o=>
  rw[ho]at h
  obtain⟨hd,h⟩:=qbY hs h
  rcases h with⟨hw,s2,⟨hs2,_⟩,h⟩|⟨hw,s2,⟨hs2,_⟩,h⟩
  ·simp only[hw,if_true]
   obtain⟨s',h,hg⟩:=qdz hcfg hC hs2 hd h
   exact .inl (qew hg (λa w hs=>hK _ _ _ hs h))
  ·simp only[hw]
   exact hK _ _ _ (hs2.dead hC hd) h
theorem jX.le(hs:jX P C s a w):HOk C.H0 w:=by
 obtain⟨H,Φ,h,_⟩:=hs
 exact λb c hb=>h.hok b c (h.le b c hb)
theorem qg.rebaseM(hs:qg P C s a w H Φ)(hm:s.mp=none):jX P (reC C w H s.obj Φ) s a w:=⟨H,Φ,hs.rebase,by rw[hm];trivial⟩
theorem qg.unbaseM{s':St}{a':Act}{w':World}(hs:qg P C s a w H Φ)(h:jX P (reC C w H s.obj Φ) s' a' w'):jX P C s' a' w':=by
 obtain⟨H',Φ',h,hM⟩:=h
 refine⟨H',Φ',(hs.unbase h).1,?_⟩
 have hmay:∀b,qaB (reC C w H s.obj Φ) w' H' Φ' s'.obj b->qaB C w' H' Φ' s'.obj b:=by
  intro b hb
  refine⟨hb.fz,hb.obj,?_,hb.lt⟩
  rcases hb.may with h1|h1
  ·exact h1.1
  ·exact .inr (Nat.le_trans hs.mod.size h1)
 unfold qcP at hM ⊢
 cases hmp:s'.mp with
 |none=>trivial
 |some m=>
  rw[hmp]at hM
  obtain⟨b,q1,q2,q3,q4,q5,q6⟩:=hM
  refine⟨b,q1,q2,hmay _ q3,q4,q5,λti lf e=>?_⟩
  obtain⟨i,k1,k2⟩:=q6 ti lf e
  exact⟨i,hmay _ k1,k2⟩
theorem qfg{ops:Array Oper}{Q:Exit->Act->World->Prop}{S S':World->Prop}(hS:∀w,S' w->S w):∀(n:Nat) (listed:Array Bool) (a:Act) (w:World),wpAnyH P .any ops Q S' n listed a w->wpAnyH P .any ops Q S n listed a w
 |0,_,_,_,h=>h
 |n+1,_,_,_,h=>⟨h.1,λi hi=>wpOp_mono (λa' w' h'=>⟨hS _ h'.1,qfg hS n _ a' w' h'.2⟩) (h.2 i hi)⟩
theorem qdx{ops:Array Oper}:∀{l dec:List Nat} {s:St} {k:List Nat->St->Option R},jX P C s a w->decK ops l dec s k=some r->∃dec' s',jX P C s' a w/\k dec' s'=some r
 |[],dec,s,k,hs,h=>⟨dec,s,hs,h⟩
 |i::l,dec,s,k,hs,h=>by
  unfold decK at h
  split at h
  ·exact qdx hs h
  ·rename_i j want _
   cases hj:qdH j dec with
   |true=>rw[hj]at h;exact qdx hs h
   |false=>
   rw[hj,cond_false]at h
   split at h
   ·exact qdx hs h
   ·rename_i t _
    split at h
    ·rename_i b hb
     obtain⟨H,Φ,hs,hM⟩:=hs
     have hr:=hs.ts t _ hb
     have hs2:jX P C (s.set t (.val .bool b)) a w:=⟨H,Φ,hs.know hr,hM⟩
     cases b with
     |true=>exact qdx hs2 h
     |false=>exact qdx hs2 h
    ·exact qdx hs h
    ·exact qdx hs h
theorem qmV{ops:Array Oper}{o:Oper}{v:Bool}(hs:qg P C s a w H Φ)(h:qhM ops s o.guard=some v):Region.wanted o (yielded ops a.tmps)=v:=by
 unfold Region.wanted
 cases hg:o.guard with
 |none=>rw[hg]at h;simp only[qhM]at h;cases h;rfl
 |some q=>
  obtain⟨j,want⟩:=q
  rw[hg]at h
  simp only[qhM]at h
  split at h
  ·cases h
  ·rename_i t ht
   split at h
   ·rename_i b hb
    cases h
    have hv:=(hs.ts t _ hb).bool
    have hy:yielded ops a.tmps j=some b:=by
     unfold yielded
     rw[ht]
     simp only[Option.bind_some]
     rw[Array.getD_eq_getD_getElem?]at hv
     cases hq:a.tmps[t]? with
     |none=>rw[hq]at hv;simp[undef]at hv
     |some u=>
      rw[hq]at hv
      simp only[Option.getD_some]at hv
      rw[hv]
    simp only[hy]
    cases b<;>cases want<;>rfl
   ·rename_i hb
    cases h
    have hv:a.tmps.getD t undef = .tuple #[]:=hs.ts t _ hb
    have hy:yielded ops a.tmps j=none:=by
     unfold yielded
     rw[ht]
     simp only[Option.bind_some]
     rw[Array.getD_eq_getD_getElem?]at hv
     cases hq:a.tmps[t]? with
     |none=>rfl
     |some u=>
      rw[hq]at hv
      simp only[Option.getD_some]at hv
      rw[hv]
    simp only[hy]
    simp
   ·cases h
theorem qk8(hcfg:qu P cfg)(hs:qg P C s a w H Φ){o:Oper}(h:qh0 cfg s o.op=true):∃v,∀w',HOk H w'->(execOp a.eval o).run P w' = .ok (.value v) w':=by
 obtain⟨dst,op,ty,pos,after,guard⟩:=o
 unfold qh0 at h
 split at h
 ·rename_i x hop
  simp only at hop
  subst hop
  exact⟨a.eval x,λw' _=>by simp[execOp]⟩
 ·rename_i T x hop
  simp only at hop
  subst hop
  split at h
  case h_3=>cases h
  ·rename_i σ y he
   obtain⟨hty,_⟩:=hcfg.ty T _ (of_decide_eq_true h)
   obtain⟨hfz,b,o,blk,hv,hH,hrep⟩:=qk hs qv he
   refine⟨jZ σ (seg blk o σ.size),λw' hw'=>?_⟩
   obtain⟨t,f,hb⟩:=HOk.cells hw' hH
   simp[execOp,hv,qbe hty hb (qm.length σ hrep)]
  ·rename_i i f n he
   simp only[Bool.and_eq_true]at h
   obtain⟨q1,q2,q3⟩:=h
   obtain rfl:=Nat.eq_of_beq_eq_true q1
   have q2:=Nat.eq_of_beq_eq_true q2
   obtain⟨b,cv,h1,⟨h2,h3⟩,hv⟩:=qk hs qv he
   obtain⟨σ,hT⟩:∃σ,lk cfg.ty T=some (.ptr σ):=by
    unfold qgg at q3
    split at q3
    ·exact⟨_,by assumption⟩
    ·cases q3
   obtain⟨hty,hfz⟩:=hcfg.ty T _ hT
   rw[q2]at h2
   obtain⟨u,rfl⟩:∃u,cv=[u]:=by
    match cv,h2 with
    |[u],_=>exact⟨u,rfl⟩
   refine⟨jZ (.ptr σ) [u],λw' hw'=>?_⟩
   obtain⟨t,f',hb⟩:=hw' b _ h1
   have:=qbe hty (o:=0) hb rfl
   have hv':a.eval x = .pointer (some ⟨b,0,none⟩):=hv
   simp[execOp,hv',this]
   rfl
 ·rename_i T x j hop
  simp only at hop
  subst hop
  split at h
  case h_3=>cases h
  ·rename_i σ y t' he hT
   obtain⟨hty,hfz'⟩:=hcfg.ty T _ hT
   obtain⟨fs,hu,hfs⟩:=hty.str
   obtain⟨f,σ',q1,q2,q3,q4,q5,q6,q7⟩:=hfs.at t' h
   obtain⟨hfz,b,o,blk,hv,hH,hrep⟩:=qk hs qv he
   refine⟨.pointer (some ⟨b,o+f.offset,none⟩),λw' _=>?_⟩
   simp[execOp,hv,qds hu q1 q3]
  ·rename_i i p t' he hT
   obtain⟨hty,hfz'⟩:=hcfg.ty T _ hT
   obtain⟨fs,hu,hfs⟩:=hty.str
   obtain⟨f,σ',q1,q2,q3,q4,q5,q6,q7⟩:=hfs.at t' h
   obtain⟨ob,y,b,o,_,_,_,_,hv⟩:=qk hs qv he
   refine⟨.pointer (some ⟨b,o+f.offset,none⟩),λw' _=>?_⟩
   simp[execOp,hv,qds hu q1 q3]
 ·rename_i x hop
  simp only at hop
  subst hop
  split at h
  case h_3=>cases h
  ·rename_i σ y he
   obtain⟨_,b,off,blk,hv,_⟩:=qk hs qv he
   exact⟨a.eval x,λw' _=>by simp[execOp,hv]⟩
  ·rename_i i p he
   obtain⟨o,y,b,off,_,_,_,_,hv⟩:=qk hs qv he
   exact⟨a.eval x,λw' _=>by simp[execOp,hv]⟩
 ·rename_i x i hop
  simp only at hop
  subst hop
  split at h
  case h_3=>cases h
  ·rename_i b c he
   obtain⟨u,us,hv,_,_⟩:=qk hs qv he
   exact⟨u,λw' _=>by simp[execOp,hv,Instr.extract]⟩
  ·rename_i b c d he
   obtain⟨u,us,hv,_,u2,us2,hv2,_,_⟩:=qk hs qv he
   obtain rfl:us=u2::us2:=by simpa using hv2
   exact⟨u2,λw' _=>by simp[execOp,hv,Instr.extract]⟩
 ·rename_i T x y T' hop
  simp only at hop
  subst hop
  split at h
  case h_2=>cases h
  rename_i i m j n h1 h2
  have v1:=(qk hs qv h1).int
  have v2:=(qk hs qv h2).int
  have hij:i=j:=by simpa using h
  subst hij
  exact⟨_,λw' _=>by simp[execOp,v1,v2,eqGuard,binOp,Op.intArith];rfl⟩
 ·rename_i T x y T' hop
  simp only at hop
  subst hop
  split at h
  case h_2=>cases h
  rename_i i m j n h1 h2
  have v1:=(qk hs qv h1).int
  have v2:=(qk hs qv h2).int
  have hij:i=j:=by simpa using h
  subst hij
  exact⟨_,λw' _=>by simp[execOp,v1,v2,eqGuard,binOp,Op.intArith];rfl⟩
 ·rename_i x T hop
  simp only at hop
  subst hop
  split at h
  case h_2=>cases h
  rename_i o2 tid e l he
  obtain⟨n,_,ad,cap,hv⟩:=qlB (f:=λn=>some n) (r:=List.length l) hs (qk hs qv he) rfl
  obtain⟨own,tid,e,hlk⟩:∃own tid e,lk cfg.ty T=some (.list own tid e):=by
   unfold qcc at h
   split at h
   ·exact⟨_,_,_,‹_›⟩
   ·cases h
  have hu:=(hcfg.ty T _ hlk).1.list.1
  exact⟨goInt n,λw' _=>by simp[execOp,resolve,invoke,builtin,Builtin.len_,hv,run_underlying hu,goInt]⟩
 ·cases h
theorem qlb(hcfg:qu P cfg)(hs:qg P C s a w H Φ){o:Oper}{K:St->Option R}(h:qf0 cfg s o=true)(hm:s.mp=none)(ho:qcu cfg o s K=some r):∃v,∀w',(execOp a.eval o).run P w' = .ok (.value v) w':=by
 obtain⟨dst,op,ty,pos,after,guard⟩:=o
 unfold qf0 at h
 split at h
 case h_2=>cases h
 rename_i T x y hop _ hsite
 simp only at hop hsite
 subst hop
 split at h
 case h_2=>cases h
 rename_i tid e l he
 split at h
 case h_2=>cases h
 rename_i k1 j hy
 have hT:=of_decide_eq_true h
 obtain⟨hty,hfz⟩:=hcfg.ty T _ hT
 unfold qcu at ho
 rw[hm]at ho
 simp only[qG,frzSite,hsite]at ho
 unfold qhG at ho
 have hj:qfJ s (some y)=some (some j):=by unfold qfJ;simp only[hy];rfl
 rw[he,hj]at ho
 simp only[qfJ,qmj,hT,Bool.not_false,Bool.true_and,decide_true,cond_true]at ho
 obtain⟨h0,ho⟩:=qaM ho
 obtain⟨h1,ho⟩:=qaM ho
 obtain⟨hf,cs,hv,hrep⟩:=qk hs qv he
 obtain⟨_,ad,cap,rfl,hcap,_⟩:=hrep
 have hv':a.eval x = .slice ad (List.length l) cap:=by rw[hv];rfl
 have hy':=(qk hs qv hy).int
 refine⟨.slice (if cap=0 then ad else ad.map (·.add (0*e.size))) (j.toNat-0) (cap-0),λw'=>?_⟩
 have:=qcS hty.list.1 hty.list.2 ad (List.length l) cap none (some j) 0 j.toNat rfl (by simp;omega) (by omega) (by omega) w' .i64 k1
 simp only[execOp,hv',hy',Option.map_none,Option.map_some]at this ⊢
 simp[this]
theorem qm1{τ:Option Ty}{x:Operand}{id:Nat}{p:List qq}(h:qI s none x=some (.view id p)):qI s τ x=some (.view id p):=by
 cases x with
 |tmp t=>exact h
 |const v=>cases v<;>simp only[qI,qgp]at h<;>(first|cases h|(split at h<;>cases h))
 |func f=>cases h
 |global g=>cases h
theorem qn7(hcfg:qu P cfg)(hs:qg P C s a w H Φ){o:Oper}{K:St->Option R}(h:qkD s o=true)(hm:s.mp=none)(ho:qcu cfg o s K=some r):∃v,∀w',(execOp a.eval o).run P w' = .ok (.value v) w':=by
 obtain⟨dst,op,ty,pos,after,guard⟩:=o
 unfold qkD at h
 split at h
 case h_3=>cases h
 case h_2=>
  rename_i x hop _
  simp only at hop
  subst hop
  unfold qcu at ho
  rw[hm]at ho
  simp only[qG]at ho
  split at h
  case h_2=>cases h
  rename_i i p he
  have he':=qm1 (τ:=lk cfg.ty ty) he
  rw[he']at ho
  obtain⟨g,hv,_⟩:=qjE hs (qk hs qv he) ho
  exact⟨_,λw'=>by simp only[execOp,hv];rfl⟩
 rename_i T x ix hop _
 simp only at hop
 subst hop
 unfold qcu at ho
 rw[hm]at ho
 simp only[qG]at ho
 split at ho
 case h_2=>cases ho
 rename_i av i he hi
 rw[he]at h
 have hr:=qk hs qv he
 obtain⟨iav,hi1,hi2⟩:=Option.bind_eq_some_iff.1 hi
 obtain⟨ik,hiv⟩:=qeG hi2 (qk hs qv hi1)
 unfold qfL at ho
 split at h
 ·rename_i o1 tid e l hav
  cases hav
  simp only at ho
  cases hT:decide (lk cfg.ty T=some (.list false tid e.fz))with
  |false=>rw[hT]at ho;cases ho
  |true=>
   rw[hT,cond_true]at ho
   obtain⟨hty,_⟩:=hcfg.ty T _ (of_decide_eq_true hT)
   obtain⟨h0,y,hy,_⟩:=qbL ho
   obtain⟨hf,cs,hv,hrep⟩:=hr
   simp only[Ty.isFz,Bool.and_eq_true,Bool.not_eq_true']at hf
   obtain⟨rfl,hef⟩:=hf
   rw[Ty.fz_of_isFz e hef]at hty
   obtain⟨_,ad,cap,rfl,hcap,hl⟩:=hrep
   have hlt:=(List.getElem?_eq_some_iff.1 hy).1
   rcases hl with rfl|⟨b,o,blk,rfl,hH,hch⟩
   ·simp at hlt
   ·have hv':a.eval x = .slice (some ⟨b,o,none⟩) (List.length l) cap:=by rw[hv];rfl
    exact⟨.pointer (some ⟨b,o+i.toNat*e.size,none⟩),λw'=>by
     simp[execOp,hv',hiv,qby hty.list.1 hty.list.2 h0 (show i<(List.length l:Int) by omega)]⟩
 ·rename_i n e l hav
  cases hav
  simp only at ho
  cases hT:decide (lk cfg.ty T=some (.arr n e))with
  |false=>rw[hT]at ho;cases ho
  |true=>
   rw[hT,cond_true]at ho
   obtain⟨hty,_⟩:=hcfg.ty T _ (of_decide_eq_true hT)
   obtain⟨u,hu,hue⟩:=hty.arr
   obtain⟨h0,y,hy,_⟩:=qbL ho
   have hlt:=(List.getElem?_eq_some_iff.1 hy).1
   obtain⟨hf,b,o,blk,hv,hH,hln,hch⟩:=hr
   exact⟨.pointer (some ⟨b,o+i.toNat*e.size,none⟩),λw'=>by
    simp[execOp,hv,hiv,qcK hu hue h0 (show i<(n:Int) by rw[<-hln];omega)]⟩
 ·rename_i id p hav
  cases hav
  simp only at ho
  split at ho
  case h_2=>cases ho
  rename_i o hob
  rw[jJ]at ho
  obtain⟨⟨σ,y⟩,hy,ho⟩:=Option.bind_eq_some_iff.1 ho
  simp only at ho
  split at ho
  case h_2=>cases ho
  rename_i own tid e l
  cases hT:own&&(decide (lk cfg.ty T=some (.list false tid e.fz)))with
  |false=>rw[hT]at ho;cases ho
  |true=>
   rw[hT,cond_true]at ho
   rw[Bool.and_eq_true]at hT
   obtain⟨rfl,hT⟩:=hT
   obtain⟨hty,_⟩:=hcfg.ty T _ (of_decide_eq_true hT)
   have hty':=qN.unfz (τ:=.list false tid e) hty
   obtain⟨h0,hlt,_⟩:=qiI ho
   obtain⟨cs,fp,hv,hrep,_⟩:=qaX hr hob (hs.os id _ hob).1 hy
   obtain⟨hdr,xs,fp',rfl,e2,how,hch⟩:=hrep
   rcases how.2 with⟨_,hz⟩|⟨g,cap,cur,hv1,_⟩
   ·have hz:List.length l=0:=hz
    omega
   ·have hv':a.eval x = .slice (some ⟨g,0,none⟩) (List.length l) cap:=by rw[hv,hv1];rfl
    exact⟨.pointer (some ⟨g,0+i.toNat*e.size,none⟩),λw'=>by
     simp[execOp,hv',hiv,qby hty'.list.1 hty'.list.2 h0 (show i<(List.length l:Int) by omega)]⟩
 ·cases h
theorem qn8(hcfg:qu P cfg)(hC:qz C cfg){ops:Array Oper}{listed:Array Bool}{dec:List Nat}{K:Act->World->Prop}{kk:St->Option R}{i:Nat}(hK:∀s a w,jX P C s a w->kk s=some r->K a w)
  (hp:qgU cfg ops listed dec s i=true) (hs:qg P C s a w H Φ) (hM:qcP P C s.mp s.obj a w H Φ) (h:qau cfg ops kk (qfm ops i) s=some r):∃o v,ops[i]? = some o/\Region.free .any ops listed i=true/\YieldsIf P ops (HOk H) o v a/\K (a.put o.dst v) w:=by
 unfold qgU at hp
 split at hp
 case h_2=>cases hp
 rename_i o ho
 rw[Bool.and_eq_true,Bool.and_eq_true,Bool.and_eq_true]at hp
 obtain⟨hmp,_,hf,hp⟩:=hp
 unfold qfm at h
 rw[ho]at h
 have h0:=h
 obtain⟨hd,hcase⟩:=qbY ⟨H,Φ,hs,hM⟩ h
 split at hp
 case h_2=>cases hp
 rename_i v hg
 have hw:=qmV (o:=o) hs hg
 cases v with
 |false=>
  rcases hcase with⟨hw',_⟩|⟨_,s2,⟨hs2,_⟩,h⟩
  ·rw[hw]at hw';cases hw'
  ·exact⟨o,undef,ho,hf,.inr ⟨hw,rfl⟩,hK _ _ _ (hs2.dead hC hd) h⟩
 |true=>
  rcases hcase with⟨_,s2,⟨hs2,_⟩,h⟩|⟨hw',_⟩
  ·obtain⟨v,hrun⟩:∃v,∀w',HOk H w'->(execOp a.eval o).run P w' = .ok (.value v) w':=by
    rw[cond_true,Bool.or_eq_true,Bool.or_eq_true]at hp
    rcases hp with hp|hp|hp
    ·exact qk8 hcfg hs hp
    rotate_left
    ·have hg0:o.guard=none:=by
      unfold qkD at hp
      split at hp
      ·rename_i e;exact e
      ·rename_i e;exact e
      ·cases hp
     have h3:=h0
     simp only[qau,hd,cond_true,hg0]at h3
     obtain⟨v,hv⟩:=qn7 hcfg hs hp (Option.isNone_iff_eq_none.1 hmp) h3
     exact⟨v,λw' _=>hv w'⟩
    ·have hg0:o.guard=none:=by
      unfold qf0 at hp
      split at hp
      ·rename_i e _;exact e
      ·cases hp
     have h3:=h0
     simp only[qau,hd,cond_true,hg0]at h3
     obtain⟨v,hv⟩:=qlb hcfg hs hp (Option.isNone_iff_eq_none.1 hmp) h3
     exact⟨v,λw' _=>hv w'⟩
   refine⟨o,v,ho,hf,.inl ⟨hw,hrun⟩,?_⟩
   obtain⟨s',h,hgo⟩:=qdz hcfg hC hs2 hd h
   have:=qew (K:=K) (Q:=λ_ _ _=>True) hgo (λa w hs=>hK _ _ _ hs h)
   unfold Oper.wp Oper.upon at this
   rw[hrun w hs.hok]at this
   exact this
  ·rw[hw]at hw';cases hw'
def RO{α:Type}(m:Sem α):Prop:=∀(P:Program) (w:World) (x:α) (w':World),m.run P w = .ok x w'->w'=w
def Nvr{α:Type}(m:Sem α):Prop:=∀(P:Program) (w:World) (x:α) (w':World),m.run P w = .ok x w'->False
theorem Nvr.ro{α:Type}{m:Sem α}(h:Nvr m):RO m:=λP w x w' e=>(h P w x w' e).elim
theorem RO.pure{α:Type}(x:α):RO (Pure.pure x:Sem α):=λP w y w' e=>by
 rw[Sem.run_pure]at e
 cases e
 rfl
theorem RO.bind{α β:Type}{m:Sem α}{f:α->Sem β}(h1:RO m)(h2:∀x,RO (f x)):RO (m >>= f):=λP w y w' e=>by
 rw[Sem.run_bind]at e
 cases h:m.run P w with
 |ok x w1=>
  rw[h]at e
  exact(h2 x P w1 y w' e).trans (h1 P w x w1 h)
 |halt a b=>rw[h]at e;cases e
theorem Nvr.bind{α β:Type}{m:Sem α}{f:α->Sem β}(h2:∀x,Nvr (f x)):Nvr (m >>= f):=λP w y w' e=>by
 rw[Sem.run_bind]at e
 cases h:m.run P w with
 |ok x w1=>rw[h]at e;exact h2 x P w1 y w' e
 |halt a b=>rw[h]at e;cases e
theorem Nvr.halt{α:Type}(h:Halt):Nvr (.halt h:Sem α):=λP w x w' e=>by cases e
theorem qid:RO Go.program:=λP w x w' e=>by cases e;rfl
theorem qni(a:Addr)(m:Mode):RO (Go.load a m):=λP w x w' e=>by
 unfold Go.load Sem.run at e
 split at e
 ·cases e;rfl
 ·split at e
  ·cases e;rfl
  ·cases e
theorem qfk(t:TypeId):RO (Go.underlying t):=by
 unfold Go.underlying
 refine RO.bind qid λp=>?_
 split
 ·exact RO.pure _
 ·exact(Nvr.halt _).ro
theorem qli(t:TypeId):RO (Go.typeInfo t):=by
 unfold Go.typeInfo
 refine RO.bind qid λp=>?_
 split
 ·exact RO.pure _
 ·exact(Nvr.halt _).ro
theorem qjB(t:TypeId):RO (Go.sizeOf t):=RO.bind (qli t) λ_=>RO.pure _
theorem ro_isAgg(t:TypeId):RO (Go.isAgg t):=by
 unfold Go.isAgg
 refine RO.bind (qfk t) λd=>?_
 split<;>exact RO.pure _
theorem qdS(a:Addr):∀(n i:Nat) (acc:Array Value),RO (Go.loadCellsFrom a i n acc)
 |0,_,_=>RO.pure _
 |n+1,i,_acc=>RO.bind (qni _ _) λ_v=>qdS a n (i+1) _
theorem qmn(t:TypeId)(a:Addr):RO (Go.loadVar t a):=by
 unfold Go.loadVar
 refine RO.bind (ro_isAgg t) λb=>?_
 split
 ·exact RO.bind (qjB t) λn=>RO.bind (qdS a _ _ _) λ_=>RO.pure _
 ·exact qni _ _
theorem qhf(v:Value):RO (Instr.sureAddr v):=by
 unfold Instr.sureAddr
 split
 ·exact RO.pure _
 ·exact(Nvr.halt _).ro
theorem qmp(v:Value):RO (Go.asIntOf v):=by
 unfold Go.asIntOf
 split
 ·exact RO.pure _
 ·exact(Nvr.halt _).ro
 ·exact(Nvr.halt _).ro
theorem qhA{α:Type}(k:IntKind)(x y:Int)(c:BoundsCode):Nvr (Go.boundsPanic k x y c:Sem α):=by
 unfold Go.boundsPanic
 have h:∀e:RuntimeError,(∃a b c d,e = .bounds a b c d)->Nvr (Go.runtimePanic e:Sem α):=by
  rintro _ ⟨a,b,c,d,rfl⟩
  unfold Go.runtimePanic
  exact Nvr.bind λp=>Nvr.halt _
 dsimp only
 split<;>exact Nvr.bind λs=>h _ ⟨_,_,_,_,rfl⟩
theorem qmo(t:TypeId)(x ix:Value):RO (Instr.indexAt t x ix):=by
 unfold Instr.indexAt
 repeat' (first|exact RO.pure _|exact qfk _|exact qjB _|exact qhf _|exact qmp _|exact(qhA _ _ _ _).ro|exact(Nvr.halt _).ro|refine RO.bind ?_ (λ_=>?_)|split|dsimp only)
theorem qlh{m:Sem Value}(h:RO m){P:Program}{w:World}{n:Next}{w':World}(e:(do pure (.value (<-m)):Sem Next).run P w = .ok n w'):w'=w/\∃u,n = .value u:=by
 rw[Sem.run_bind]at e
 cases h':m.run P w with
 |ok x w1=>
  rw[h']at e
  cases e
  exact⟨h P w x _ h',x,rfl⟩
 |halt a b=>rw[h']at e;cases e
theorem qmk{o:Oper}(hs:qdP o=true){ρ:Operand->Value}{P:Program}{w:World}{n:Next}{w':World}(e:(execOp ρ o).run P w = .ok n w'):w'=w/\∃u,n = .value u:=by
 unfold qdP at hs
 unfold execOp at e
 split at hs
 ·rename_i x hop;rw[hop]at e;cases e;exact⟨rfl,_,rfl⟩
 ·rename_i T x hop;rw[hop]at e;exact qlh (RO.bind (qhf _) λa=>qmn T a) e
 ·rename_i T x ix hop;rw[hop]at e;exact qlh (qmo _ _ _) e
 ·cases hs
theorem qk0{ops:Array Oper}{Q:Exit->Act->World->Prop}{j:Nat}{oj:Oper}(hj:ops[j]? = some oj)(hs:qdP oj=true){K:Act->World->Prop}(h:wpOp P ops Q j K a w):wpOp P ops Q j (λa' w'=>w'=w/\K a' w') a w:=by
 unfold wpOp at *
 simp only[hj]at *
 split
 ·rename_i hw
  rw[if_pos hw]at h
  refine h.imp_left λh=>?_
  unfold Oper.wp at *
  cases hr:(execOp a.eval oj).run P w with
  |ok n w'=>
   obtain⟨rfl,u,rfl⟩:=qmk hs hr
   rw[hr]at h
   exact⟨rfl,h⟩
  |halt x w'=>
   rw[hr]at h
   cases x<;>exact h
 ·rename_i hw
  rw[if_neg hw]at h
  exact⟨trivial,h⟩
theorem qjf{ops:Array Oper}{Q:Exit->Act->World->Prop}{S:World->Prop}{i:Nat}{oi:Oper}{v:Value}(hi:ops[i]? = some oi)(hsel:∀(j:Nat) (o:Oper) cs b,ops[j]? = some o->o.op≠.select cs b)
  (hQ:∀c a w,Q (.panic c) (a.put oi.dst v) w->Q (.panic c) a w) {D:List Nat} (hD:∀d∈D,d≠i->∃od,ops[d]? = some od/\∃e∈od.after,Region.binds .any e=true/\e.on∈D):
  ∀(qn:Nat) (listed:Array Bool) (a:Act) (w:World),
   (∀j oj,ops[j]? = some oj->j≠i->listed.getD j true=false->(∀e∈oj.after,Region.binds .any e=true->e.on≠i)->oi.apart ops oj=true)->
   (∀d∈D,listed.getD d true=false)->(∀j oj,ops[j]? = some oj->j≠i->listed.getD j true=false->j∉D->qdP oj=true)->
   i∈Region.ready .any ops listed->YieldsIf P ops (λw0=>w0=w) oi v a->S w->
   wpAnyH P .any ops Q S qn (listed.setIfInBounds i true) (a.put oi.dst v) w->wpAnyH P .any ops Q S (qn+1) listed a w:=by
 intro qn
 induction qn with
 |zero=>
  intro listed a w _ _ _ hr hy hS H
  refine⟨λh=>(by rw[h]at hr;cases hr),λj hj=>?_⟩
  by_cases hji:j=i
  ·subst hji;exact YieldsIf.wpOp (S:=λw0=>w0=w) hi hy rfl ⟨hS,H⟩
  ·have:=ready_mono hj hji
   rw[H.1]at this
   cases this
 |succ qn ih=>
  intro listed a w hfree hDl hst hr hy hS H
  refine⟨λh=>(by rw[h]at hr;cases hr),λj hj=>?_⟩
  by_cases hji:j=i
  ·subst hji;exact YieldsIf.wpOp (S:=λw0=>w0=w) hi hy rfl ⟨hS,H⟩
  ·have h1:=H.2 j (ready_mono hj hji)
   obtain⟨hjun,oj,hoj,hall⟩:=mem_ready.1 hj
   have hlst:∀d,listed.getD d true=false->listed.getD d false=true->False:=λd h0 h1=>by
    rcases Nat.lt_or_ge d listed.size with h'|h'
    ·simp[h']at h0 h1;rw[h0]at h1;cases h1
    ·simp[Array.getElem?_eq_none h']at h1
   have hnot:∀e∈oj.after,Region.binds .any e=true->e.on≠i:=λe he hb heq=>hlst i (mem_ready.1 hr).1 (heq▸hall e he hb)
   have hjD:j∉D:=λhjD=>by
    obtain⟨od,ho,e,he,hb,hon⟩:=hD j hjD hji
    rw[hoj]at ho
    cases ho
    exact hlst _ (hDl _ hon) (hall e he hb)
   have h2:=qk0 hoj (hst j oj hoj hji hjun hjD) (wpOp_putIf hoj (hfree j oj hoj hji hjun hnot) (λcs b=>hsel i oi cs b hi) (λcs b=>hsel j oj cs b hoj) hQ hy h1)
   have hback:∀k,(listed.setIfInBounds j true).getD k true=false->listed.getD k true=false:=λk hun=>by
    by_cases hjk:j=k
    ·subst hjk;exact hjun
    ·rw[getD_set_ne true hjk]at hun;exact hun
   refine wpOp_mono (λa' w' h3=>?_) h2
   obtain⟨e1,h3,h4,h5⟩:=h3
   subst e1
   refine ih (listed.setIfInBounds j true) a' w' (λk ok hk hki hun hno=>hfree k ok hk hki (hback k hun) hno) (λd hd=>?_) (λk ok hk hki hun hkD=>hst k ok hk hki (hback k hun) hkD) (ready_mono hr (Ne.symm hji)) h3 h4 ?_ |> λh=>⟨h4,h⟩
   ·rw[getD_set_ne true (λe=>hjD (by rw[e];exact hd))]
    exact hDl d hd
   ·rw[Array.setIfInBounds_comm _ _ hji]
    exact h5
theorem qjn(hcfg:qu P cfg)(hC:qz C cfg){ops:Array Oper}{listed:Array Bool}{K:Act->World->Prop}{kk:St->Option R}{i:Nat}(hK:∀s a w,jX P C s a w->kk s=some r->K a w)
  (hp:qiJ ops listed s i=true) (hs:jX P C s a w) (h:qau cfg ops kk (qfm ops i) s=some r):∃o v,ops[i]? = some o/\Region.free .any ops listed i=true/\qd6 ops listed i=true/\YieldsIf P ops (λw0=>w0=w) o v a/\K (a.put o.dst v) w:=by
 unfold qiJ at hp
 split at hp
 case h_2=>cases hp
 rename_i o ho
 split at hp
 case h_2=>cases hp
 rename_i T x hop hg
 rw[Bool.and_eq_true,Bool.and_eq_true]at hp
 obtain⟨hmp,hf,hsr⟩:=hp
 have hmp:=Option.isNone_iff_eq_none.1 hmp
 unfold qfm at h
 rw[ho]at h
 have hst:jU o=true:=by unfold jU;rw[hop]
 have hwt:Region.wanted o (yielded ops a.tmps)=true:=by unfold Region.wanted;rw[hg]
 obtain⟨hd,h⟩:=qbY hs h
 rcases h with⟨_,s2,⟨hs2,hm2⟩,h⟩|⟨hw,_⟩
 ·rw[qeT (cfg:=cfg) (hm2 hmp) (qdX hst)]at h
  obtain⟨s',h,v,hv,hsim⟩:=qcG hcfg hC hs2.sim hd hst h
  exact⟨o,v,ho,hf,hsr,.inl ⟨hwt,λw0 e=>by subst e;exact hv _ (jM.refl _ _)⟩,hK _ _ _ ((hsim.withM none).simM rfl) h⟩
 ·rw[hwt]at hw;cases hw
theorem qhx{ops:Array Oper}{listed:Array Bool}{i:Nat}(h:qd6 ops listed i=true):
  (∀d∈qe1 ops listed i,d≠i->∃od,ops[d]? = some od/\∃e∈od.after,Region.binds .any e=true/\e.on∈qe1 ops listed i)/\(∀d∈qe1 ops listed i,listed.getD d true=false)/\
   ∀j oj,ops[j]? = some oj->j≠i->listed.getD j true=false->j∉qe1 ops listed i->qdP oj=true:=by
 unfold qd6 waitOK at h
 rw[Bool.and_eq_true,List.all_eq_true,List.all_eq_true]at h
 obtain⟨h1,h2⟩:=h
 refine⟨λd hd hdi=>?_,λd hd=>?_,λj oj hj hji hun hjD=>?_⟩
 ·have:=h1 d hd
  rw[Bool.and_eq_true,Bool.or_eq_true]at this
  rcases this.2 with h3|h3
  ·exact absurd (Nat.eq_of_beq_eq_true h3) hdi
  ·split at h3
   ·rename_i o ho
    obtain⟨e,he,hb⟩:=Array.any_eq_true'.1 h3
    rw[Bool.and_eq_true]at hb
    exact⟨o,ho,e,he,hb.1,qa6.1 hb.2⟩
   ·cases h3
 ·have:=h1 d hd
  rw[Bool.and_eq_true]at this
  simpa using this.1
 ·have:=h2 j (List.mem_range.2 (Array.getElem?_eq_some_iff.1 hj).1)
  rw[hj,hun,Bool.false_or,Bool.or_eq_true,Bool.or_eq_true]at this
  rcases this with h3|h3|h3
  ·exact absurd (Nat.eq_of_beq_eq_true h3) hji
  ·exact absurd (qa6.1 h3) hjD
  ·exact h3
theorem qjQ{ops:Array Oper}{listed:Array Bool}{dec:List Nat}{i:Nat}(h:qgU cfg ops listed dec s i=true):s.mp=none:=by
 unfold qgU at h
 split at h
 ·rw[Bool.and_eq_true]at h;exact Option.isNone_iff_eq_none.1 h.1
 ·cases h
theorem qhO(hcfg:qu P cfg){ops:Array Oper}{kk:St->Option R}{Q:Exit->Act->World->Prop}(hns:Region.noSelect ops=true)(hQp:∀c a w,¬Q (.panic c) a w):
  ∀(n:Nat) (listed:Array Bool) (dec:List Nat) {C:Ctx} (_:qz C cfg) (_:∀s a w,jX P C s a w->kk s=some r->Q .normal a w) {s:St} {a:Act} {w:World},jX P C s a w->qdI cfg ops kk n listed dec s=some r->wpAnyH P .any ops Q (HOk C.H0) n listed a w
 |0,listed,dec,C,hC,hQ,s,a,w,hs,h=>by
  unfold qdI at h
  unfold wpAnyH
  split at h
  ·rename_i e;exact⟨e,hQ _ _ _ hs h⟩
  ·cases h
 |n+1,listed,dec,C,hC,hQ,s,a,w,hs,h=>by
  unfold qdI at h
  obtain⟨dec,s,hs,h⟩:=qdx hs h
  split at h
  ·rename_i i hfind
   have hr:=List.mem_of_find?_eq_some hfind
   have hp:=List.find?_some hfind
   unfold qnv at hp
   cases hp1:qgU cfg ops listed dec s i with
   |false=>
    rw[hp1,Bool.false_or]at hp
    obtain⟨o,v,ho,hf,hsr,hy,hK⟩:=qjn hcfg hC (λs a w hs h=>qhO hcfg hns hQp n _ dec hC hQ hs h) hp hs h
    obtain⟨k1,k2,k3⟩:=qhx hsr
    exact qjf ho (Region.noSelect_spec hns) (λc a w h=>absurd h (hQp c _ w)) k1 n listed a w (Region.free_spec ho hf) k2 k3 hr hy hs.le hK
   |true=>
   replace hp:=hp1
   obtain⟨H,Φ,hb,hM⟩:=hs
   have hb2:=hb.rebaseM (qjQ hp)
   obtain⟨o,v,ho,hf,hy,hK⟩:=qn8 (C:=reC C w H s.obj Φ) hcfg (qgK hC) (λs a w hs h=>qhO hcfg hns hQp n _ dec (qgK hC) (λs a w hs h=>hQ s a w (hb.unbaseM hs) h) hs h) hp hb.rebase (by rw[qjQ hp];trivial) h
   exact qfg (S':=HOk H) (λw h b c e=>h b c (hb.le b c e)) _ _ _ _ (wpAnyH_take ho hns hf (by simpa using hr) (λc a w h=>absurd h (hQp c _ w)) hy hb.hok hK)
  ·unfold wpAnyH
   have hstep:∀(i:Nat),qau cfg ops (λs=>qdI cfg ops kk n (listed.setIfInBounds i true) dec s) (qfm ops i) s=some r->
     wpOp P ops Q i (λa' w'=>HOk C.H0 w'/\wpAnyH P .any ops Q (HOk C.H0) n (listed.setIfInBounds i true) a' w') a w:=λi h=>
    any_step hcfg hC (λs a w hs h=>⟨hs.le,qhO hcfg hns hQp n _ dec hC hQ hs h⟩) hs h
   split at h
   ·rename_i e;rw[e];exact⟨λ_=>hQ _ _ _ hs h,λi hi=>by cases hi⟩
   ·rename_i i e
    rw[e]
    refine⟨(λe=>by cases e),λj hj=>?_⟩
    rw[List.mem_singleton.1 hj]
    exact hstep i h
   ·rename_i i j l e
    rw[e]
    refine⟨(λe=>by cases e),λt ht=>?_⟩
    exact hstep t (qhu h _ (List.mem_map.2 ⟨t,ht,rfl⟩))
theorem qkJ(hs:Sim P C s a w)(x:Operand):Sim P C (frzT cfg s x) a w/\(frzT cfg s x).mp=s.mp:=by
 unfold frzT
 split
 ·split
  ·exact⟨hs,rfl⟩
  ·rename_i τ _
   cases τ.isFz with
   |false=>exact⟨hs,rfl⟩
   |true=>
   rw[cond_true]
   split
   ·rename_i id _
    obtain⟨H,Φ,hs⟩:=hs
    obtain⟨H',_,_,_,hs2⟩:=hs.freeze id
    refine⟨⟨H',Φ,hs2⟩,?_⟩
    unfold St.freeze
    split<;>rfl
   ·exact⟨hs,rfl⟩
 ·exact⟨hs,rfl⟩
theorem qaV:∀(l:List Oper) {s:St},Sim P C s a w->Sim P C (qgX cfg l s) a w/\(qgX cfg l s).mp=s.mp
 |[],_,hs=>⟨hs,rfl⟩
 |o::l,s,hs=>by
  unfold qgX
  split
  ·rename_i x _ _
   obtain⟨h1,h2⟩:=qkJ (cfg:=cfg) hs x
   obtain⟨h3,h4⟩:=qaV l h1
   exact⟨h3,h4.trans h2⟩
  ·rename_i x _
   obtain⟨h1,h2⟩:=qkJ (cfg:=cfg) hs x
   obtain⟨h3,h4⟩:=qaV l h1
   exact⟨h3,h4.trans h2⟩
  ·rename_i x _ _
   obtain⟨h1,h2⟩:=qkJ (cfg:=cfg) hs x
   obtain⟨h3,h4⟩:=qaV l h1
   exact⟨h3,h4.trans h2⟩
  ·exact qaV l hs
theorem qkU(hcfg:qu P cfg)(hC:qz C cfg){ops:Array Oper}{kk:St->Option R}{Q:Exit->Act->World->Prop}(hns:Region.noSelect ops=true)(hQ:∀s a w,jX P C s a w->kk s=some r->Q .normal a w)(hQp:∀c a w,¬Q (.panic c) a w)
  (n:Nat) (listed:Array Bool) (dec:List Nat) {s:St} {a:Act} {w:World} (hs:jX P C s a w) (h:qdI cfg ops kk n listed dec s=some r):wpAny P .any ops Q n listed a w:=
 wpAny_of_held _ _ _ _ (qhO hcfg hns hQp n listed dec hC hQ hs h)
end
end Go.Vi
