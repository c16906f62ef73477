/- The abstract interpreter Vi, part C: a verified interpreter over the model's code, whose run of a function gives the contract of the function. No condition beyond those typed in each theorem. -/
import Derived.Test.YtmlocmhkfnojbaaGreatViB
import Derived.Maps.Range
import Derived.Maps.RangeWalk
import Derived.Carry
import Derived.KernelRfl
import Derived.Shelf.Slices.Reverse
import Derived.Test.YtmlocmhkfnojbaaGreatRows
import Derived.Below
import Derived.ChangeSame
import Derived.OpenShut
import Derived.ProofKit
import Derived.WideKeyArgs
import Derived.JoinedCond
import Derived.IntWalk
namespace Go.Vi
section
variable {P:Program} {C:cM} {aa:jB} {R:Type} {r:R} {s:St} {a:Act} {w:World} {H:FH} {Φ:Nat->qH} {dst:Option Nat} {ty:TypeId} {pos:String} {after:Array Edge} {guard:Option (Nat×Bool)} {k:St->Option R}
theorem St.iw(s:St)(id j:Nat):(s.freeze id).obj j=if id=j then none else s.obj j:=by
 unfold St.freeze
 cases ho:s.obj id with
 |none=>
  simp only
  split
  ·rename_i e;rw[<-e];exact ho
  ·rfl
 |some o=>exact St.ak s id j none
theorem qh.aQ:∀(ids:List Nat) {s:St} {H:FH},qh P C s a w H Φ->
  ∃Hf,H.le Hf/\(∀b c,Hf b=some c->H b=some c\/∃id∈ids,∃o,s.obj id=some o/\b∈(Φ id).fp)/\GG w Hf Φ s.obj ids/\qh P C (s.aQ ids) a w Hf Φ/\∀j,(s.aQ ids).obj j=if j∈ids then none else s.obj j
 |[],s,H,h=>⟨H,FH.le_refl _,λ_ _ hb=>.inl hb,(λid aF=>by cases aF),h,λj=>by simp[St.aQ]⟩
 |i::r,s,H,h=>by
  obtain⟨H1,k1,k2,k3,k4⟩:=h.freeze i
  obtain⟨H2,m1,m2,m3,m4,m5⟩:=qh.aQ r k4
  refine⟨H2,FH.le_trans k1 m1,?_,?_,m4,?_⟩
  ·intro b c hb
   rcases m2 b c hb with hb|⟨id,aF,o,ho,CI⟩
   ·rcases k2 b c hb with hb|⟨o,ho,CI⟩
    ·exact .inl hb
    ·exact .inr ⟨i,by simp,o,ho,CI⟩
   ·rw[St.iw]at ho
    split at ho
    ·cases ho
    ·exact .inr ⟨id,by simp[aF],o,ho,CI⟩
  ·intro id aF o ho b hb c hc
   by_cases e:i=id
   ·subst e
    exact m1 _ _ (k3 o ho b hb c hc)
   ·rcases List.mem_cons.1 aF with h1|aF
    ·exact absurd h1.symm e
    ·exact m3 id aF o (by rw[St.iw,if_neg e];exact ho) b hb c hc
  ·intro j
   show((s.freeze i).aQ r).obj j=_
   rw[m5 j,St.iw]
   by_cases h1:j∈r
   ·simp[h1]
   ·by_cases h2:i=j
    ·simp[h2]
    ·have h3:j≠i:=λe=>h2 e.symm
     simp[h1,h2,h3]
def AS(n m j:Nat):Prop:=∀i,n<=i->i<n+m->j≠i/\j≠oB true i/\j≠oB false i
theorem UB{n m j:Nat}(h:AS n (m+1) j):AS (n+1) m j:=λi h1 h2=>h i (by omega) (by omega)
theorem qgj{n m:Nat}(h:n+(m+1)<3000000):AS (n+1) m n:=λi h1 h2=>⟨by omega,by have:=@qg3 true i;omega,by have:=@qg3 false i;omega⟩
theorem qnx{nn:Bool}{n m:Nat}(h:n+(m+1)<3000000):AS (n+1) m (oB nn n):=λi h1 h2=>
 ⟨by have:=@qg3 nn n;omega,qjY (by omega) (by omega) (by omega),qjY (by omega) (by omega) (by omega)⟩
theorem Rv{n m j:Nat}(h:AS n (m+1) j):j≠n:=(h n (Nat.le_refl _) (by omega)).1
theorem qfU{nn:Bool}{n m j:Nat}(h:AS n (m+1) j):j≠oB nn n:=by
 cases nn with
 |true=>exact(h n (Nat.le_refl _) (by omega)).2.1
 |false=>exact(h n (Nat.le_refl _) (by omega)).2.2
theorem Rn:∀(rs:List fk) {n:Nat} {d:bH rs} {us:List Value} {aJ:List qH} {s:St} {Φ:Nat->qH},qh P C s a w H Φ->gv P w H rs d us aJ->(∀i,i<10000000->C.gQ i=none)->n+rs.length<3000000->
  (∀b∈qc aJ,H b=none/\(C.M0 b\/C.w0.heap.size<=b)/\b<w.heap.size/\∀j o,s.obj j=some o->b∉(Φ j).fp)->(qc aJ).Nodup->
  ∃aU,qh P C (jM s n rs d).1 a w H aU/\qi P C w H aU (jM s n rs d).1.obj (jM s n rs d).2 (.tuple us.toArray)/\(jM s n rs d).2.aY=true/\∀j,AS n rs.length j->(jM s n rs d).1.obj j=s.obj j/\aU j=Φ j
 |[],n,d,us,aJ,s,Φ,hs,hr,_,_,_,_=>by
  obtain⟨rfl,rfl⟩:=hr
  exact⟨Φ,hs,rfl,rfl,λ_ _=>⟨rfl,rfl⟩⟩
 |.v τ::rs,n,d,us,aJ,s,Φ,hs,hr,dN,hlt,hb,aq=>by
  obtain⟨v,vs',φ,ag,rfl,rfl,hfz,hφ,hv,hr⟩:=hr
  obtain⟨aU,h1,h2,h3,h4⟩:=Rn rs (n:=n+1) hs hr dN (by rw[List.length_cons]at hlt;omega) (λb hb'=>hb b (by simpa[qc,hφ]using hb')) (by simpa[qc,hφ]using aq)
  exact⟨aU,h1,⟨v,vs',rfl,⟨hfz,hv⟩,h2⟩,h3,λj hj=>h4 j (UB hj)⟩
 |.own tid e::rs,n,d,us,aJ,s,Φ,hs,hr,dN,hlt,hb,aq=>by
  obtain⟨v,vs',φ,ag,rfl,rfl,hv,hok,hr⟩:=hr
  have aO:φ.fp.Nodup/\(qc ag).Nodup/\∀b∈φ.fp,b∉qc ag:=by
   simp only[qc,List.flatMap_cons,List.nodup_append]at aq
   exact⟨aq.1,aq.2.1,λb h1 h2=>aq.2.2 b h1 b h2 rfl⟩
  have h0:=hs.newObj (jO.refl _ w) (dN n (by rw[List.length_cons]at hlt;omega)) (uE (by rw[List.length_cons]at hlt;omega)) (row:=true) (τ:=.list true tid e) (x:=d.1) (φ:=φ) hok (λb hb'=>by
   obtain⟨k1,k2,k3,k4⟩:=hb b (by simp[qc,hb'])
   exact⟨k1,k2,k3,λj o _ hj=>k4 j o hj⟩)
  obtain⟨aU,h1,h2,h3,h4⟩:=Rn rs (n:=n+1) h0 hr dN (by rw[List.length_cons]at hlt;omega) (λb hb'=>by
   obtain⟨k1,k2,k3,k4⟩:=hb b (by simp only[qc,List.flatMap_cons,List.mem_append];exact .inr hb')
   refine⟨k1,k2,k3,λj o hj=>?_⟩
   rw[St.newObj,St.ak]at hj
   split at hj
   ·rename_i e1;subst e1;rw[qt];exact λh1=>aO.2.2 b h1 hb'
   ·rename_i e1;rw[qW _ _ (λe=>e1 e.symm)];exact k4 j o hj) aO.2.1
  obtain⟨h5,h6⟩:=h4 n (qgj (by rw[List.length_cons]at hlt;omega))
  refine⟨aU,h1,⟨v,vs',rfl,⟨⟨true,.list true tid e,d.1⟩,⟨.list true tid e,d.1⟩,?_,qO _ _,?_⟩,h2⟩,h3,λj hj=>?_⟩
  ·show(jM ((s.kill n).setObj n _) (n+1) rs d.2).1.obj n=_
   have CQ:=h5
   rw[St.newObj,St.ak,if_pos rfl]at CQ
   exact CQ
  ·simp only[List.isEmpty_nil,Bool.and_self]
   rw[h6,qt,hv]
  ·obtain⟨h7,h8⟩:=h4 j (UB hj)
   refine⟨?_,by rw[h8,qW _ _ (Rv hj)]⟩
   show(jM ((s.kill n).setObj n _) (n+1) rs d.2).1.obj j=_
   rw[St.newObj,St.ak,if_neg (λe=>Rv hj e.symm)]at h7
   exact h7
 |.sure nn tid e::rs,n,d,us,aJ,s,Φ,hs,hr,dN,hlt,hb,aq=>by
  obtain⟨v,vs',φ,ag,rfl,rfl,hv,hok,hsv,hr⟩:=hr
  have aO:φ.fp.Nodup/\(qc ag).Nodup/\∀b∈φ.fp,b∉qc ag:=by
   simp only[qc,List.flatMap_cons,List.nodup_append]at aq
   exact⟨aq.1,aq.2.1,λb h1 h2=>aq.2.2 b h1 b h2 rfl⟩
  have h0:=hs.newObj (jO.refl _ w) (dN (oB nn n) (qg2 (by rw[List.length_cons]at hlt;omega))) (qjA (by rw[List.length_cons]at hlt;omega) hsv) (row:=true) (τ:=.list true tid e) (x:=d.1) (φ:=φ) hok (λb hb'=>by
   obtain⟨k1,k2,k3,k4⟩:=hb b (by simp[qc,hb'])
   exact⟨k1,k2,k3,λj o _ hj=>k4 j o hj⟩)
  obtain⟨aU,h1,h2,h3,h4⟩:=Rn rs (n:=n+1) h0 hr dN (by rw[List.length_cons]at hlt;omega) (λb hb'=>by
   obtain⟨k1,k2,k3,k4⟩:=hb b (by simp only[qc,List.flatMap_cons,List.mem_append];exact .inr hb')
   refine⟨k1,k2,k3,λj o hj=>?_⟩
   rw[St.newObj,St.ak]at hj
   split at hj
   ·rename_i e1;subst e1;rw[qt];exact λh1=>aO.2.2 b h1 hb'
   ·rename_i e1;rw[qW _ _ (λe=>e1 e.symm)];exact k4 j o hj) aO.2.1
  obtain⟨h5,h6⟩:=h4 (oB nn n) (qnx (by rw[List.length_cons]at hlt;omega))
  refine⟨aU,h1,⟨v,vs',rfl,⟨⟨true,.list true tid e,d.1⟩,⟨.list true tid e,d.1⟩,?_,qO _ _,?_⟩,h2⟩,h3,λj hj=>?_⟩
  ·show(jM ((s.kill (oB nn n)).setObj (oB nn n) _) (n+1) rs d.2).1.obj (oB nn n)=_
   have CQ:=h5
   rw[St.newObj,St.ak,if_pos rfl]at CQ
   exact CQ
  ·simp only[List.isEmpty_nil,Bool.and_self]
   rw[h6,qt,hv]
  ·obtain⟨h7,h8⟩:=h4 j (UB hj)
   refine⟨?_,by rw[h8,qW _ _ (qfU hj)]⟩
   show(jM ((s.kill (oB nn n)).setObj (oB nn n) _) (n+1) rs d.2).1.obj j=_
   rw[St.newObj,St.ak,if_neg (λe=>qfU hj e.symm)]at h7
   exact h7
 |.ir τ::rs,n,d,us,aJ,s,Φ,hs,hr,dN,hlt,hb,aq=>by
  obtain⟨v,vs',φ,ag,rfl,rfl,hv,hok,hr⟩:=hr
  have aO:φ.fp.Nodup/\(qc ag).Nodup/\∀b∈φ.fp,b∉qc ag:=by
   simp only[qc,List.flatMap_cons,List.nodup_append]at aq
   exact⟨aq.1,aq.2.1,λb h1 h2=>aq.2.2 b h1 b h2 rfl⟩
  have h0:=hs.newObj (jO.refl _ w) (dN n (by rw[List.length_cons]at hlt;omega)) (uE (by rw[List.length_cons]at hlt;omega)) (row:=true) (τ:=τ) (x:=d.1) (φ:=φ) hok (λb hb'=>by
   obtain⟨k1,k2,k3,k4⟩:=hb b (by simp[qc,hb'])
   exact⟨k1,k2,k3,λj o _ hj=>k4 j o hj⟩)
  obtain⟨aU,h1,h2,h3,h4⟩:=Rn rs (n:=n+1) h0 hr dN (by rw[List.length_cons]at hlt;omega) (λb hb'=>by
   obtain⟨k1,k2,k3,k4⟩:=hb b (by simp only[qc,List.flatMap_cons,List.mem_append];exact .inr hb')
   refine⟨k1,k2,k3,λj o hj=>?_⟩
   rw[St.newObj,St.ak]at hj
   split at hj
   ·rename_i e1;subst e1;rw[qt];exact λh1=>aO.2.2 b h1 hb'
   ·rename_i e1;rw[qW _ _ (λe=>e1 e.symm)];exact k4 j o hj) aO.2.1
  obtain⟨h5,h6⟩:=h4 n (qgj (by rw[List.length_cons]at hlt;omega))
  refine⟨aU,h1,⟨v,vs',rfl,⟨⟨true,τ,d.1⟩,⟨τ,d.1⟩,?_,qO _ _,?_⟩,h2⟩,h3,λj hj=>?_⟩
  ·show(jM ((s.kill n).setObj n _) (n+1) rs d.2).1.obj n=_
   have CQ:=h5
   rw[St.newObj,St.ak,if_pos rfl]at CQ
   exact CQ
  ·simp only[List.isEmpty_nil,Bool.and_self]
   rw[h6,qt,hv]
  ·obtain⟨h7,h8⟩:=h4 j (UB hj)
   refine⟨?_,by rw[h8,qW _ _ (Rv hj)]⟩
   show(jM ((s.kill n).setObj n _) (n+1) rs d.2).1.obj j=_
   rw[St.newObj,St.ak,if_neg (λe=>Rv hj e.symm)]at h7
   exact h7
 |.iu τ::rs,n,d,us,aJ,s,Φ,hs,hr,dN,hlt,hb,aq=>by
  obtain⟨v,vs',φ,ag,rfl,rfl,hv,hok,hr⟩:=hr
  have aO:φ.fp.Nodup/\(qc ag).Nodup/\∀b∈φ.fp,b∉qc ag:=by
   simp only[qc,List.flatMap_cons,List.nodup_append]at aq
   exact⟨aq.1,aq.2.1,λb h1 h2=>aq.2.2 b h1 b h2 rfl⟩
  have h0:=hs.newObj (jO.refl _ w) (dN n (by rw[List.length_cons]at hlt;omega)) (uE (by rw[List.length_cons]at hlt;omega)) (row:=false) (τ:=τ) (x:=d.1) (φ:=φ) hok (λb hb'=>by
   obtain⟨k1,k2,k3,k4⟩:=hb b (by simp[qc,hb'])
   exact⟨k1,k2,k3,λj o _ hj=>k4 j o hj⟩)
  obtain⟨aU,h1,h2,h3,h4⟩:=Rn rs (n:=n+1) h0 hr dN (by rw[List.length_cons]at hlt;omega) (λb hb'=>by
   obtain⟨k1,k2,k3,k4⟩:=hb b (by simp only[qc,List.flatMap_cons,List.mem_append];exact .inr hb')
   refine⟨k1,k2,k3,λj o hj=>?_⟩
   rw[St.newObj,St.ak]at hj
   split at hj
   ·rename_i e1;subst e1;rw[qt];exact λh1=>aO.2.2 b h1 hb'
   ·rename_i e1;rw[qW _ _ (λe=>e1 e.symm)];exact k4 j o hj) aO.2.1
  obtain⟨h5,h6⟩:=h4 n (qgj (by rw[List.length_cons]at hlt;omega))
  refine⟨aU,h1,⟨v,vs',rfl,⟨⟨false,τ,d.1⟩,⟨τ,d.1⟩,φ.b,0,?_,rfl,qO _ _,?_,hv⟩,h2⟩,h3,λj hj=>?_⟩
  ·show(jM ((s.kill n).setObj n _) (n+1) rs d.2).1.obj n=_
   have CQ:=h5
   rw[St.newObj,St.ak,if_pos rfl]at CQ
   exact CQ
  ·rw[h6,qt]
   exact kV _ _ _ _
  ·obtain⟨h7,h8⟩:=h4 j (UB hj)
   refine⟨?_,by rw[h8,qW _ _ (Rv hj)]⟩
   show(jM ((s.kill n).setObj n _) (n+1) rs d.2).1.obj j=_
   rw[St.newObj,St.ak,if_neg (λe=>Rv hj e.symm)]at h7
   exact h7
theorem qnY{os:Nat->Option Obj}{av:AV}{us:List Value}(ht:av.aY=true)(h:qi P C w H Φ os av (.tuple us.toArray)):qi P C w H Φ os av.lone (oD us):=by
 have hl:=sN ht h
 match av,ht with
 |.nil,_=>
  match us,hl with
  |[],_=>exact h
 |.cons b .nil,_=>
  match us,hl with
  |[u],hl=>exact hl.1
  |_::_::_,hl=>exact hl.2.elim
 |.cons b (.cons c d),_=>
  match us,hl with
  |_::_::_,_=>exact h
  |[_],hl=>exact hl.2.elim
theorem sL{α:Type}{n:Nat}{x:α}:∀{l:List (Nat×α)},lk l n=some x->(n,x)∈l
 |[],h=>by cases h
 |(m,y)::l,h=>by
  rw[jW]at h
  cases hb:Nat.beq m n with
  |true=>rw[hb]at h;cases h;obtain rfl:=Nat.eq_of_beq_eq_true hb;simp
  |false=>rw[hb]at h;exact List.mem_cons_of_mem _ (sL h)
theorem BO{α:Type}{n:Nat}:∀{l:List (Nat×α)},lk l n=none->∀x∈l,x.1≠n
 |[],_,x,hx=>by cases hx
 |(m,y)::l,h,x,hx=>by
  rw[jW]at h
  cases hb:Nat.beq m n with
  |true=>rw[hb]at h;cases h
  |false=>
   rw[hb]at h
   rcases List.mem_cons.1 hx with rfl|hx
   ·exact Nat.ne_of_beq_eq_false hb
   ·exact BO h x hx
theorem qhr{α:Type}{f:α->List Nat}:∀{l:List α},(l.flatMap f).Nodup->∀x∈l,∀y∈l,x≠y->∀b∈f x,b∉f y
 |[],_,x,hx,_,_,_,_,_=>by cases hx
 |z::l,h,x,hx,y,hy,hne,b,hb=>by
  simp only[List.flatMap_cons,List.nodup_append]at h
  intro hb'
  rcases List.mem_cons.1 hx with rfl|hx2
  ·rcases List.mem_cons.1 hy with rfl|hy2
   ·exact hne rfl
   ·exact h.2.2 b hb b (List.mem_flatMap.2 ⟨y,hy2,hb'⟩) rfl
  ·rcases List.mem_cons.1 hy with rfl|hy2
   ·exact h.2.2 b hb' b (List.mem_flatMap.2 ⟨x,hx2,hb⟩) rfl
   ·exact qhr h.2.1 x hx2 y hy2 hne b hb hb'
theorem Hw{f:Nat->List Nat}:∀{l:List Nat},l.Nodup->(∀x∈l,(f x).Nodup)->(∀x∈l,∀y∈l,x≠y->∀b∈f x,b∉f y)->(l.flatMap f).Nodup
 |[],_,_,_=>by simp
 |z::l,h,h1,h2=>by
  simp only[List.nodup_cons]at h
  simp only[List.flatMap_cons,List.nodup_append]
  refine⟨h1 z (by simp),Hw h.2 (λx hx=>h1 x (by simp[hx])) (λx hx y hy=>h2 x (by simp[hx]) y (by simp[hy])),?_⟩
  rintro b hb _ hb' rfl
  obtain⟨y,hy,hb'⟩:=List.mem_flatMap.1 hb'
  exact h2 z (by simp) y (by simp[hy]) (by rintro rfl;exact h.1 hy) b hb hb'
theorem qlr(ae:qx P aa)(hC:qD C aa){s0:St}{H0 H2 Hf:FH}{w':World}(hs:qh P C s0 a w H0 Φ)(hd:qK aa.nt dst=true)(hle:H0.le H2)(gB:cI H2 w'){p:qS}(tY:p.rs.length<1000)
  {l:List AV} {vs us:List Value} {d:aI p.ps} {y:bH p.rs×aV p.ps} {ai ag aJ:List qH} {G:List Nat} (hG:∀b∈G,(C.M0 b\/C.w0.heap.size<=b)/\∀j o,s0.obj j=some o->b∉(Φ j).fp) (hm:jO (· ∈qc ai++G) w w') (gY:∀b c,H2 b=some c->H0 b=some c\/b∈qc ai++G\/w.heap.size<=b)
  (hmr:pT s0.obj Φ p.ps l ai) (hargs:jU P w Hf p.ps d vs ai) (dL:jR P w' H2 p.ps y.2 vs ag) (hres:gv P w' H2 p.rs y.1 us aJ) (aq:(qc (aJ++ag)).Nodup)
  (hall:∀b∈qc (aJ++ag),H2 b=none/\(b∈qc ai++G\/w.heap.size<=b)/\b<w'.heap.size) (mE:(qI p.ps l).Nodup):
  ∃aU,qh P C (jM (qC (s0.af AV.aH) p.ps l y.2) (1000*(dst.getD 0+1)) p.rs y.1).1 a w' H2 aU/\qi P C w' H2 aU (jM (qC (s0.af AV.aH) p.ps l y.2) (1000*(dst.getD 0+1)) p.rs y.1).1.obj (jM (qC (s0.af AV.aH) p.ps l y.2) (1000*(dst.getD 0+1)) p.rs y.1).2 (.tuple us.toArray)/\(jM (qC (s0.af AV.aH) p.ps l y.2) (1000*(dst.getD 0+1)) p.rs y.1).2.aY=true/\
   ∀j,10000000<=j->(aU j).b=(Φ j).b/\(jM (qC (s0.af AV.aH) p.ps l y.2) (1000*(dst.getD 0+1)) p.rs y.1).1.obj j=(qC (s0.af AV.aH) p.ps l y.2).obj j:=by
 obtain⟨ML,h1,h2,h3,h4,h5⟩:=HD hmr hargs dL
 obtain⟨F,g1,g2,g3⟩:=h5 (s0.af AV.aH)
 rw[<-h1]at mE
 have g3:=g3 mE
 have IJ:qc (aJ++ag)=qc aJ++qc ag:=by simp[qc]
 rw[IJ]at aq hall
 simp only[List.nodup_append]at aq
 obtain⟨yj,dJ,Cs⟩:=aq
 have hmay:∀b∈qc ai++G,C.M0 b\/C.w0.heap.size<=b:=by
  intro b hb
  rcases List.mem_append.1 hb with hb|hb
  case inr=>exact(hG b hb).1
  rw[h3]at hb
  obtain⟨x,hx,hb⟩:=List.mem_flatMap.1 hb
  obtain⟨o,ho,_⟩:=h4 x hx
  exact((hs.os _ o ho).2 b hb).2.1
 have rm:∀j o',lk ML j=none->s0.obj j=some o'->∀b∈(Φ j).fp,b∉qc ai++G/\b<w.heap.size/\H0 b=none:=by
  intro j o' hj cu b hb
  refine⟨λhb'=>?_,((hs.os j o' cu).2 b hb).2.2,((hs.os j o' cu).2 b hb).1⟩
  rcases List.mem_append.1 hb' with hb'|hb'
  case inr=>exact(hG b hb').2 j o' cu hb
  rw[h3]at hb'
  obtain⟨x,hx,hb'⟩:=List.mem_flatMap.1 hb'
  obtain⟨o,ho,_⟩:=h4 x hx
  exact hs.aN x.1 j o o' (BO hj x hx) ho cu b hb' hb
 have CN:∀b,(b∈qc ai++G\/w.heap.size<=b)->∀j o',lk ML j=none->s0.obj j=some o'->b∉(Φ j).fp:=by
  intro b hb j o' hj cu dY
  obtain⟨k1,k2,_⟩:=rm j o' hj cu b dY
  rcases hb with hb|hb
  ·exact k1 hb
  ·omega
 have KS:∀b,(b∈qc ai++G\/w.heap.size<=b)->C.M0 b\/C.w0.heap.size<=b:=by
  rintro b (hb|hb)
  ·exact hmay b hb
  ·exact .inr (Nat.le_trans hs.mod.size hb)
 have Cy:∀id x,lk ML id=some x->∀b∈x.2,b∈qc ag:=by
  intro id x hx b hb
  rw[h2]
  exact List.mem_flatMap.2 ⟨(id,x),sL hx,hb⟩
 have bE:qh P C (qC (s0.af AV.aH) p.ps l y.2) a w' H2 (J' (lk ML) Φ):=by
  refine hs.rH (ch:=lk ML) (F:=λav=>AV.aH av||F av) ?_ g3 ?_ ?_ ?_ hle gB ?_ (hs.mod.bA hm hmay) hm.size ?_ ?_ ?_
  ·intro id x hx
   exact h4 (id,x) (sL hx)
  ·intro t
   rw[g1,St.aS]
   cases s0.get t with
   |none=>rfl
   |some av=>simp[j9]
  ·intro id x hx av hst
   simp[g2 (id,x) (sL hx) av hst]
  ·intro av hu;simp[hu]
  ·intro b c hb
   rcases gY b c hb with hb|hb|hb
   ·exact hs.hnew b c hb
   ·exact .inr (hmay b hb)
   ·exact .inr (.inr (Nat.le_trans hs.mod.size hb))
  ·intro j o' hj cu b hb
   obtain⟨k1,k2,k3⟩:=rm j o' hj cu b hb
   refine⟨hm.block b k2 k1,?_⟩
   cases hq:H2 b with
   |none=>rfl
   |some c=>
    rcases gY b c hq with h|h|h
    ·rw[k3]at h;cases h
    ·exact absurd h k1
    ·omega
  ·intro id x hx b hb
   obtain⟨k1,k2,k3⟩:=hall b (List.mem_append.2 (.inr (Cy id x hx b hb)))
   exact⟨k1,KS b k2,k3,CN b k2⟩
  ·intro i j x y' hij hx hy b hb
   rw[h2]at dJ
   exact qhr dJ (i,x) (sL hx) (j,y') (sL hy) (by intro e;cases e;exact hij rfl) b hb
 have hdn:dst.getD 0<2000:=by
  cases dst with
  |none=>decide
  |some d'=>exact Nat.lt_of_lt_of_le (Eq.mp Nat.blt_eq hd:d'<aa.nt) ae.small
 obtain⟨aU,k1,k2,k3,k4⟩:=Rn p.rs (n:=1000*(dst.getD 0+1)) bE hres (λi hi=>hC.gQ i hi) (by omega) (by
  intro b hb
  obtain⟨q1,q2,q3⟩:=hall b (List.mem_append.2 (.inl hb))
  refine⟨q1,KS b q2,q3,λj o hj=>?_⟩
  rw[g3]at hj
  unfold J'
  cases hc:lk ML j with
  |some x=>
   simp only
   exact λhb'=>Cs b hb b (Cy j x hc b hb') rfl
  |none=>
   rw[hc]at hj
   exact CN b q2 j o hc hj) yj
 refine⟨aU,k1,k2,k3,λj hj=>?_⟩
 obtain⟨q1,q2⟩:=k4 j (λi h1 h2=>⟨by omega,by have:=@qg2 true i (by omega);omega,by have:=@qg2 false i (by omega);omega⟩)
 refine⟨?_,q1⟩
 rw[q2]
 unfold J'
 cases lk ML j<;>rfl
theorem qgW(ae:qx P aa)(hC:qD C aa){s0:St}{H0 H2 Hf:FH}{w':World}(hs:qh P C s0 a w H0 Φ)(hd:qK aa.nt dst=true)(hle:H0.le H2)(gB:cI H2 w'){p:qS}(tY:p.rs.length<1000)
  {l:List AV} {vs us:List Value} {d:aI p.ps} {y:bH p.rs×aV p.ps} {ai ag aJ:List qH} {G:List Nat} (hG:∀b∈G,(C.M0 b\/C.w0.heap.size<=b)/\∀j o,s0.obj j=some o->b∉(Φ j).fp) (hm:jO (· ∈qc ai++G) w w') (gY:∀b c,H2 b=some c->H0 b=some c\/b∈qc ai++G\/w.heap.size<=b)
  (hmr:pT s0.obj Φ p.ps l ai) (hargs:jU P w Hf p.ps d vs ai) (dL:jR P w' H2 p.ps y.2 vs ag) (hres:gv P w' H2 p.rs y.1 us aJ) (aq:(qc (aJ++ag)).Nodup)
  (hall:∀b∈qc (aJ++ag),H2 b=none/\(b∈qc ai++G\/w.heap.size<=b)/\b<w'.heap.size) (mE:(qI p.ps l).Nodup):
  ∃aU,qh P C (jM (qC (s0.af AV.aH) p.ps l y.2) (1000*(dst.getD 0+1)) p.rs y.1).1 a w' H2 aU/\qi P C w' H2 aU (jM (qC (s0.af AV.aH) p.ps l y.2) (1000*(dst.getD 0+1)) p.rs y.1).1.obj (jM (qC (s0.af AV.aH) p.ps l y.2) (1000*(dst.getD 0+1)) p.rs y.1).2 (.tuple us.toArray)/\(jM (qC (s0.af AV.aH) p.ps l y.2) (1000*(dst.getD 0+1)) p.rs y.1).2.aY=true:=by
 obtain⟨aU,k1,k2,k3,_⟩:=qlr ae hC hs hd hle gB tY hG hm gY hmr hargs dL hres aq hall mE
 exact⟨aU,k1,k2,k3⟩
theorem qh5(ae:qx P aa)(hC:qD C aa){s0:St}{H0 H2 Hf:FH}{w':World}(hs:qh P C s0 a w H0 Φ)(hd:qK aa.nt dst=true)(hle:H0.le H2)(gB:cI H2 w'){p:qS}(tY:p.rs.length<1000)
  {l:List AV} {vs us:List Value} {d:aI p.ps} {y:bH p.rs×aV p.ps} {ai ag aJ:List qH} {G:List Nat} (hG:∀b∈G,(C.M0 b\/C.w0.heap.size<=b)/\∀j o,s0.obj j=some o->b∉(Φ j).fp) (hm:jO (· ∈qc ai++G) w w') (gY:∀b c,H2 b=some c->H0 b=some c\/b∈qc ai++G\/w.heap.size<=b)
  (hmr:pT s0.obj Φ p.ps l ai) (hargs:jU P w Hf p.ps d vs ai) (dL:jR P w' H2 p.ps y.2 vs ag) (hres:gv P w' H2 p.rs y.1 us aJ) (aq:(qc (aJ++ag)).Nodup)
  (hall:∀b∈qc (aJ++ag),H2 b=none/\(b∈qc ai++G\/w.heap.size<=b)/\b<w'.heap.size) (mE:(qI p.ps l).Nodup):
  dS P C ((jM (qC (s0.af AV.aH) p.ps l y.2) (1000*(dst.getD 0+1)) p.rs y.1).1.ah dst (jM (qC (s0.af AV.aH) p.ps l y.2) (1000*(dst.getD 0+1)) p.rs y.1).2.lone) (a.put dst (oD us)) w':=by
 obtain⟨aU,k1,k2,k3⟩:=qgW ae hC hs hd hle gB tY hG hm gY hmr hargs dL hres aq hall mE
 exact⟨H2,aU,k1.ah (by rw[hC.nt];exact hd) (qnY k3 k2)⟩
theorem qmC(ae:qx P aa)(hC:qD C aa){s0:St}{H0 H2 Hf:FH}{w':World}(hs:qh P C s0 a w H0 Φ)(hd:qK aa.nt dst=true)(hle:H0.le H2)(gB:cI H2 w'){p:qS}(tY:p.rs.length<1000)
  {l:List AV} {vs us:List Value} {d:aI p.ps} {y:bH p.rs×aV p.ps} {ai ag aJ:List qH} (hm:jO (· ∈qc ai) w w') (gY:∀b c,H2 b=some c->H0 b=some c\/b∈qc ai\/w.heap.size<=b)
  (hmr:pT s0.obj Φ p.ps l ai) (hargs:jU P w Hf p.ps d vs ai) (dL:jR P w' H2 p.ps y.2 vs ag) (hres:gv P w' H2 p.rs y.1 us aJ) (aq:(qc (aJ++ag)).Nodup)
  (hall:∀b∈qc (aJ++ag),H2 b=none/\(b∈qc ai\/w.heap.size<=b)/\b<w'.heap.size) (mE:(qI p.ps l).Nodup):
  ∃aU,qh P C (jM (qC (s0.af AV.aH) p.ps l y.2) (1000*(dst.getD 0+1)) p.rs y.1).1 a w' H2 aU/\qi P C w' H2 aU (jM (qC (s0.af AV.aH) p.ps l y.2) (1000*(dst.getD 0+1)) p.rs y.1).1.obj (jM (qC (s0.af AV.aH) p.ps l y.2) (1000*(dst.getD 0+1)) p.rs y.1).2 (.tuple us.toArray)/\(jM (qC (s0.af AV.aH) p.ps l y.2) (1000*(dst.getD 0+1)) p.rs y.1).2.aY=true:=
 qgW ae hC hs hd hle gB tY (G:=[]) (by simp) (by simpa using hm) (by simpa using gY) hmr hargs dL hres aq (by simpa using hall) mE
theorem qjF(ae:qx P aa)(hC:qD C aa){s0:St}{H0 H2 Hf:FH}{w':World}(hs:qh P C s0 a w H0 Φ)(hd:qK aa.nt dst=true)(hle:H0.le H2)(gB:cI H2 w'){p:qS}(tY:p.rs.length<1000)
  {l:List AV} {vs us:List Value} {d:aI p.ps} {y:bH p.rs×aV p.ps} {ai ag aJ:List qH} (hm:jO (· ∈qc ai) w w') (gY:∀b c,H2 b=some c->H0 b=some c\/b∈qc ai\/w.heap.size<=b)
  (hmr:pT s0.obj Φ p.ps l ai) (hargs:jU P w Hf p.ps d vs ai) (dL:jR P w' H2 p.ps y.2 vs ag) (hres:gv P w' H2 p.rs y.1 us aJ) (aq:(qc (aJ++ag)).Nodup)
  (hall:∀b∈qc (aJ++ag),H2 b=none/\(b∈qc ai\/w.heap.size<=b)/\b<w'.heap.size) (mE:(qI p.ps l).Nodup):
  dS P C ((jM (qC (s0.af AV.aH) p.ps l y.2) (1000*(dst.getD 0+1)) p.rs y.1).1.ah dst (jM (qC (s0.af AV.aH) p.ps l y.2) (1000*(dst.getD 0+1)) p.rs y.1).2.lone) (a.put dst (oD us)) w':=
 qh5 ae hC hs hd hle gB tY (G:=[]) (by simp) (by simpa using hm) (by simpa using gY) hmr hargs dL hres aq (by simpa using hall) mE
theorem ze{os:Nat->Option Obj}:∀{ps:List j3} {l:List AV} {ai:List qH},pT os Φ ps l ai->qc ai=(qI ps l).flatMap (λid=>(Φ id).fp)/\∀id∈qI ps l,∃o,os id=some o
 |[],l,ai,h=>by obtain⟨rfl,rfl⟩:=h;exact⟨rfl,by simp[qI]⟩
 |.v τ::ps,l,ai,h=>by
  obtain⟨av,l',φ,bZ,rfl,rfl,hφ,hm⟩:=h
  obtain⟨h1,h2⟩:=ze hm
  exact⟨by simpa[qc,hφ,qI]using h1,by simpa[qI]using h2⟩
 |.r τ::ps,l,ai,h=>by
  obtain⟨av,l',φ,bZ,rfl,rfl,hφ,hm⟩:=h
  obtain⟨h1,h2⟩:=ze hm
  exact⟨by simpa[qc,hφ,qI]using h1,by simpa[qI]using h2⟩
 |.c _::ps,l,ai,h=>by
  obtain⟨av,l',φ,bZ,rfl,rfl,hφ,hm⟩:=h
  obtain⟨h1,h2⟩:=ze hm
  exact⟨by simpa[qc,hφ,qI]using h1,by simpa[qI]using h2⟩
 |.m τ::ps,l,ai,h=>by
  obtain⟨id,l',bZ,x,rfl,rfl,ho,hm⟩:=h
  obtain⟨h1,h2⟩:=ze hm
  exact⟨by simpa[qc,qI,AV.name]using h1,by simpa[qI,AV.name,ho]using h2⟩
 |.gm τ::ps,l,ai,h=>by
  obtain⟨id,l',bZ,x,rfl,rfl,ho,hm⟩:=h
  obtain⟨h1,h2⟩:=ze hm
  exact⟨by simpa[qc,qI,AV.name]using h1,by simpa[qI,AV.name,ho]using h2⟩
 |.mr tid e::ps,l,ai,h=>by
  obtain⟨id,l',bZ,x,rfl,rfl,ho,hm⟩:=h
  obtain⟨h1,h2⟩:=ze hm
  exact⟨by simpa[qc,qI,AV.name]using h1,by simpa[qI,AV.name,ho]using h2⟩
 |.t tid e::ps,l,ai,h=>by
  obtain⟨id,l',bZ,x,rfl,rfl,ho,hm⟩:=h
  obtain⟨h1,h2⟩:=ze hm
  exact⟨by simpa[qc,qI,AV.name]using h1,by simpa[qI,AV.name,ho]using h2⟩
 |.cm f τ::ps,l,ai,h=>by
  obtain⟨id,l',bZ,x,rfl,rfl,ho,hm⟩:=h
  obtain⟨h1,h2⟩:=ze hm
  exact⟨by simpa[qc,qI,AV.jd,AV.name]using h1,by simpa[qI,AV.jd,AV.name,ho]using h2⟩
theorem Be{os os':Nat->Option Obj}:∀{ps:List j3} {l:List AV} {ai:List qH},(∀id∈qI ps l,os' id=os id)->pT os Φ ps l ai->pT os' Φ ps l ai
 |[],l,ai,_,h=>h
 |.v τ::ps,l,ai,hh,h=>by
  obtain⟨av,l',φ,bZ,rfl,rfl,hφ,hm⟩:=h
  exact⟨av,l',φ,bZ,rfl,rfl,hφ,Be (by simpa[qI]using hh) hm⟩
 |.r τ::ps,l,ai,hh,h=>by
  obtain⟨av,l',φ,bZ,rfl,rfl,hφ,hm⟩:=h
  exact⟨av,l',φ,bZ,rfl,rfl,hφ,Be (by simpa[qI]using hh) hm⟩
 |.c _::ps,l,ai,hh,h=>by
  obtain⟨av,l',φ,bZ,rfl,rfl,hφ,hm⟩:=h
  exact⟨av,l',φ,bZ,rfl,rfl,hφ,Be (by simpa[qI]using hh) hm⟩
 |.m τ::ps,l,ai,hh,h=>by
  obtain⟨id,l',bZ,x,rfl,rfl,ho,hm⟩:=h
  exact⟨id,l',bZ,x,rfl,rfl,by rw[hh id (by simp[qI,AV.name])];exact ho,Be (λj hj=>hh j (by simp[qI,hj])) hm⟩
 |.gm τ::ps,l,ai,hh,h=>by
  obtain⟨id,l',bZ,x,rfl,rfl,ho,hm⟩:=h
  exact⟨id,l',bZ,x,rfl,rfl,by rw[hh id (by simp[qI,AV.name])];exact ho,Be (λj hj=>hh j (by simp[qI,hj])) hm⟩
 |.mr tid e::ps,l,ai,hh,h=>by
  obtain⟨id,l',bZ,x,rfl,rfl,ho,hm⟩:=h
  exact⟨id,l',bZ,x,rfl,rfl,by rw[hh id (by simp[qI,AV.name])];exact ho,Be (λj hj=>hh j (by simp[qI,hj])) hm⟩
 |.t tid e::ps,l,ai,hh,h=>by
  obtain⟨id,l',bZ,x,rfl,rfl,ho,hm⟩:=h
  exact⟨id,l',bZ,x,rfl,rfl,by rw[hh id (by simp[qI,AV.name])];exact ho,Be (λj hj=>hh j (by simp[qI,hj])) hm⟩
 |.cm f τ::ps,l,ai,hh,h=>by
  obtain⟨id,l',bZ,x,rfl,rfl,ho,hm⟩:=h
  exact⟨id,l',bZ,x,rfl,rfl,by rw[hh id (by simp[qI,AV.jd,AV.name])];exact ho,Be (λj hj=>hh j (by simp[qI,hj])) hm⟩
theorem qR.closed{w:World}{H H':FH}{o:Obj}{φ:qH}(hc:o.τ.isClosed=true)(h:qR P w H o φ):qR P w H' o φ:=by
 obtain⟨h1,h2,h3⟩:=h
 refine⟨h1,h2,?_⟩
 cases hr:o.row with
 |false=>
  rw[hr]at h3
  obtain⟨blk,t,aC,h4,h5,h6⟩:=h3
  exact⟨blk,t,aC,h4,qm.closed _ hc h5,h6⟩
 |true=>
  rw[hr]at h3
  obtain⟨k1,cs,k2,k3⟩:=h3
  exact⟨k1,cs,k2,qm.closed _ hc k3⟩
theorem jR.closed{w:World}{H H':FH}:∀{ps:List j3} {md:aV ps} {vs:List Value} {ai:List qH},ps.all j3.closed=true->jR P w H ps md vs ai->jR P w H' ps md vs ai
 |[],_,_,_,_,h=>h
 |.v τ::ps,md,vs,ai,hc,h=>by
  obtain⟨v,vs',φ,ag,e1,e2,e3,h⟩:=h
  exact⟨v,vs',φ,ag,e1,e2,e3,jR.closed (by simpa[j3.closed]using hc) h⟩
 |.r τ::ps,md,vs,ai,hc,h=>by
  obtain⟨v,vs',φ,ag,e1,e2,e3,h⟩:=h
  exact⟨v,vs',φ,ag,e1,e2,e3,jR.closed (by simpa[j3.closed]using hc) h⟩
 |.c _::ps,md,vs,ai,hc,h=>by
  obtain⟨v,vs',φ,ag,e1,e2,e3,h⟩:=h
  exact⟨v,vs',φ,ag,e1,e2,e3,jR.closed (by simpa[j3.closed]using hc) h⟩
 |.m τ::ps,md,vs,ai,hc,h=>by
  simp only[List.all_cons,Bool.and_eq_true]at hc
  obtain⟨v,vs',φ,ag,e1,e2,e3,e4,h⟩:=h
  exact⟨v,vs',φ,ag,e1,e2,e3,qR.closed hc.1 e4,jR.closed hc.2 h⟩
 |.mr tid e::ps,md,vs,ai,hc,h=>by
  simp only[List.all_cons,Bool.and_eq_true]at hc
  obtain⟨v,vs',φ,ag,e1,e2,e3,e4,h⟩:=h
  exact⟨v,vs',φ,ag,e1,e2,e3,qR.closed (by simpa[Ty.isClosed]using Ty.bg e hc.1) e4,jR.closed hc.2 h⟩
 |.t _ _::ps,md,vs,ai,hc,h=>by
  simp only[List.all_cons,Bool.and_eq_true]at hc
  obtain⟨v,vs',φ,ag,e1,e2,e3,h⟩:=h
  exact⟨v,vs',φ,ag,e1,e2,e3,jR.closed hc.2 h⟩
 |.gm _::ps,md,vs,ai,hc,h=>by
  simp only[List.all_cons,Bool.and_eq_true]at hc
  obtain⟨v,vs',φ,ag,e1,e2,e3,h⟩:=h
  exact⟨v,vs',φ,ag,e1,e2,e3,jR.closed hc.2 h⟩
 |.cm f τ::ps,md,vs,ai,hc,h=>by
  simp only[List.all_cons,Bool.and_eq_true]at hc
  obtain⟨v,vs',φ,ag,e1,e2,e3,e4,h⟩:=h
  exact⟨v,vs',φ,ag,e1,e2,e3,qR.closed hc.1 e4,jR.closed hc.2 h⟩
theorem gv.closed{w:World}{H H':FH}:∀{rs:List fk} {d:bH rs} {vs:List Value} {ai:List qH},rs.all fk.closed=true->gv P w H rs d vs ai->gv P w H' rs d vs ai
 |[],_,_,_,_,h=>h
 |.v τ::rs,d,vs,ai,hc,h=>by
  simp only[List.all_cons,Bool.and_eq_true]at hc
  obtain⟨v,vs',φ,ag,e1,e2,e3,e4,⟨cs,e5,e6⟩,h⟩:=h
  exact⟨v,vs',φ,ag,e1,e2,e3,e4,⟨cs,e5,qm.closed τ (Ty.bg τ hc.1) e6⟩,gv.closed hc.2 h⟩
 |.own tid e::rs,d,vs,ai,hc,h=>by
  simp only[List.all_cons,Bool.and_eq_true]at hc
  obtain⟨v,vs',φ,ag,e1,e2,e3,e4,h⟩:=h
  exact⟨v,vs',φ,ag,e1,e2,e3,qR.closed (by simpa[Ty.isClosed]using Ty.bg e hc.1) e4,gv.closed hc.2 h⟩
 |.sure _ tid e::rs,d,vs,ai,hc,h=>by
  simp only[List.all_cons,Bool.and_eq_true]at hc
  obtain⟨v,vs',φ,ag,e1,e2,e3,e4,e5,h⟩:=h
  exact⟨v,vs',φ,ag,e1,e2,e3,qR.closed (by simpa[Ty.isClosed]using Ty.bg e hc.1) e4,e5,gv.closed hc.2 h⟩
 |.ir _::rs,d,vs,ai,hc,h=>by
  simp only[List.all_cons,Bool.and_eq_true]at hc
  obtain⟨v,vs',φ,ag,e1,e2,e3,e4,h⟩:=h
  exact⟨v,vs',φ,ag,e1,e2,e3,qR.closed hc.1 e4,gv.closed hc.2 h⟩
 |.iu τ::rs,d,vs,ai,hc,h=>by
  simp only[List.all_cons,Bool.and_eq_true]at hc
  obtain⟨v,vs',φ,ag,e1,e2,e3,e4,h⟩:=h
  exact⟨v,vs',φ,ag,e1,e2,e3,qR.closed hc.1 e4,gv.closed hc.2 h⟩
theorem qoK(ae:qx P aa)(hC:qD C aa){f:Nat}{m:zb}(hp:lk aa.iz f=some m){l:List AV}{vs:List Value}(hs:qh P C s a w H Φ)(hd:qK aa.nt dst=true)(hrel:dl (qi P C w H Φ s.obj) l vs)
  (h:qnJ aa s dst m l k=some r):∃s',k s'=some r/\Calls P f vs.toArray w λe w''=>∃v,e = .returned v/\dS P C s' (a.put dst v) w'':=by
 obtain⟨_,dD⟩:=ae.iz f m hp
 unfold qnJ at h
 cases hq:apart (qI m.p.ps l) (qG m.p.ps l)&&Nat.blt m.p.rs.length 1000 with
 |false=>rw[hq]at h;cases h
 |true=>
 rw[hq,cond_true]at h
 rw[Bool.and_eq_true]at hq
 obtain⟨hap,tY⟩:=hq
 have tY:m.p.rs.length<1000:=Eq.mp Nat.blt_eq tY
 obtain⟨mE,uO⟩:=Kr hap
 obtain⟨Hf,m1,m2,m3,m4,m5⟩:=qh.aQ (qG m.p.ps l) hs
 obtain⟨d,h,ai,hargs,hmr⟩:=xO ae hs m1 m3 hrel h
 rw[qj]at h
 replace h:=Option.bind_eq_some_iff.1 h
 obtain⟨y,hy,h⟩:=h
 obtain⟨cn,hmo⟩:=ze hmr
 have aq:(qc ai).Nodup:=by
  rw[cn]
  refine Hw mE (λid aF=>?_) (λi hi j hj hij b hb=>?_)
  ·obtain⟨o,ho⟩:=hmo id aF
   exact(hs.os id o ho).1.2.1
  ·obtain⟨o,ho⟩:=hmo i hi
   obtain⟨o',ho'⟩:=hmo j hj
   exact hs.aN i j o o' hij ho ho' b hb
 have hnone:∀b∈qc ai,Hf b=none/\b<w.heap.size:=by
  intro b hb
  rw[cn]at hb
  obtain⟨id,aF,hb⟩:=List.mem_flatMap.1 hb
  obtain⟨o,ho⟩:=hmo id aF
  obtain⟨q1,q2,q3⟩:=(hs.os id o ho).2 b hb
  refine⟨?_,q3⟩
  cases hq:Hf b with
  |none=>rfl
  |some c=>
   rcases m2 b c hq with h1|⟨dX,nZ,o2,df,cO⟩
   ·rw[q1]at h1;cases h1
   ·exact absurd cO (hs.aN id dX o o2 (by rintro rfl;exact uO id aF nZ) ho df b hb)
 have hc:=dD d y hy w Hf vs ai m4.hok hargs aq hnone
 refine⟨_,h,hc.mono ?_⟩
 rintro e w'' ⟨us,H',ag,aJ,he,hm,hle,cD,hnew,hres,dL,dJ,hall⟩
 refine⟨_,he,?_⟩
 obtain⟨aU,k1,k2,_⟩:=qmC ae hC m4 hd hle cD tY hm hnew (Be (λid aF=>by rw[m5,if_neg (uO id aF)]) hmr) hargs dL hres dJ hall mE
 exact⟨H',aU,k1.ah (by rw[hC.nt];exact hd) ⟨#[],us.toArray,rfl,rfl,k2⟩⟩
theorem qku(ae:qx P aa)(hC:qD C aa){p:qS}{X:(Ending->World->Prop)->Prop}(hX:∀{Q Q':Ending->World->Prop},X Q->(∀e w,Q e w->Q' e w)->X Q'){l:List AV}{vs:List Value}(hs:qh P C s a w H Φ)(hd:qK aa.nt dst=true)(hrel:dl (qi P C w H Φ s.obj) l vs)
  (dD:∀(d:aI p.ps) (y:bH p.rs×aV p.ps),p.g d=some y->∀(H2:FH) (ai:List qH),H.le H2->cI H2 w->jU P w H2 p.ps d vs ai->(qc ai).Nodup->(∀b∈qc ai,H2 b=none/\b<w.heap.size)->
   X λe w'=>∃us H' ag aJ,e = .returned (oD us)/\jO (· ∈qc ai) w w'/\H2.le H'/\cI H' w'/\(∀b c,H' b=some c->H2 b=some c\/b∈qc ai\/w.heap.size<=b)/\
    gv P w' H' p.rs y.1 us aJ/\jR P w' H' p.ps y.2 vs ag/\(qc (aJ++ag)).Nodup/\∀b∈qc (aJ++ag),H' b=none/\(b∈qc ai\/w.heap.size<=b)/\b<w'.heap.size)
  (h:He aa s dst p l k=some r):∃s',k s'=some r/\X λe w''=>∃v,e = .returned v/\dS P C s' (a.put dst v) w'':=by
 unfold He at h
 cases hq:apart (qI p.ps l) (qG p.ps l)&&Nat.blt p.rs.length 1000 with
 |false=>rw[hq]at h;cases h
 |true=>
 rw[hq,cond_true]at h
 rw[Bool.and_eq_true]at hq
 obtain⟨hap,tY⟩:=hq
 have tY:p.rs.length<1000:=Eq.mp Nat.blt_eq tY
 obtain⟨mE,uO⟩:=Kr hap
 obtain⟨Hf,m1,m2,m3,m4,m5⟩:=qh.aQ (qG p.ps l) hs
 obtain⟨d,h,ai,hargs,hmr⟩:=xO ae hs m1 m3 hrel h
 rw[qj]at h
 replace h:=Option.bind_eq_some_iff.1 h
 obtain⟨y,hy,h⟩:=h
 obtain⟨cn,hmo⟩:=ze hmr
 have aq:(qc ai).Nodup:=by
  rw[cn]
  refine Hw mE (λid aF=>?_) (λi hi j hj hij b hb=>?_)
  ·obtain⟨o,ho⟩:=hmo id aF
   exact(hs.os id o ho).1.2.1
  ·obtain⟨o,ho⟩:=hmo i hi
   obtain⟨o',ho'⟩:=hmo j hj
   exact hs.aN i j o o' hij ho ho' b hb
 have hnone:∀b∈qc ai,Hf b=none/\b<w.heap.size:=by
  intro b hb
  rw[cn]at hb
  obtain⟨id,aF,hb⟩:=List.mem_flatMap.1 hb
  obtain⟨o,ho⟩:=hmo id aF
  obtain⟨q1,q2,q3⟩:=(hs.os id o ho).2 b hb
  refine⟨?_,q3⟩
  cases hq:Hf b with
  |none=>rfl
  |some c=>
   rcases m2 b c hq with h1|⟨dX,nZ,o2,df,cO⟩
   ·rw[q1]at h1;cases h1
   ·exact absurd cO (hs.aN id dX o o2 (by rintro rfl;exact uO id aF nZ) ho df b hb)
 have hc:=dD d y hy Hf ai m1 m4.hok hargs aq hnone
 refine⟨_,h,hX hc ?_⟩
 rintro e w'' ⟨us,H',ag,aJ,he,hm,hle,cD,hnew,hres,dL,dJ,hall⟩
 refine⟨_,he,?_⟩
 cases dH:p.rs.all fk.closed&&p.ps.all j3.closed with
 |false=>
  rw[cond_false]
  exact qjF ae hC m4 hd hle cD tY hm hnew (Be (λid aF=>by rw[m5,if_neg (uO id aF)]) hmr) hargs dL hres dJ hall mE
 |true=>
  rw[cond_true]
  rw[Bool.and_eq_true]at dH
  classical
  have htf:∀b,(∃id∈qG p.ps l,∃o,s.obj id=some o/\b∈(Φ id).fp)->H b=none:=by
   rintro b ⟨id,_,o,ho,hb⟩
   exact((hs.os id o ho).2 b hb).1
  let H2:FH:=λb=>if(∃id∈qG p.ps l,∃o,s.obj id=some o/\b∈(Φ id).fp)then none else H' b
  have Ss:∀b c,H2 b=some c->H' b=some c/\¬∃id∈qG p.ps l,∃o,s.obj id=some o/\b∈(Φ id).fp:=by
   intro b c hb
   simp only[H2]at hb
   split at hb
   ·cases hb
   ·exact⟨hb,‹_›⟩
  refine qjF (H2:=H2) ae hC hs hd ?_ (λb c hb=>cD b c (Ss b c hb).1) tY hm ?_ hmr hargs (jR.closed dH.2 dL) (gv.closed dH.1 hres) dJ ?_ mE
  ·intro b c hb
   simp only[H2]
   rw[if_neg (λhh=>by rw[htf b hh]at hb;cases hb)]
   exact hle _ _ (m1 _ _ hb)
  ·intro b c hb
   obtain⟨q1,q2⟩:=Ss b c hb
   rcases hnew b c q1 with q|q|q
   ·rcases m2 b c q with q|q
    ·exact .inl q
    ·exact absurd q q2
   ·exact .inr (.inl q)
   ·exact .inr (.inr q)
  ·intro b hb
   obtain⟨q1,q2,q3⟩:=hall b hb
   refine⟨?_,q2,q3⟩
   simp only[H2]
   split
   ·rfl
   ·exact q1
theorem DD(ae:qx P aa)(hC:qD C aa){f:Nat}{p:qS}(hp:lk aa.b_ f=some p){l:List AV}{vs:List Value}(hs:qh P C s a w H Φ)(hd:qK aa.nt dst=true)(hrel:dl (qi P C w H Φ s.obj) l vs)
  (h:He aa s dst p l k=some r):∃s',k s'=some r/\Calls P f vs.toArray w λe w''=>∃v,e = .returned v/\dS P C s' (a.put dst v) w'':=
 qku ae hC (X:=λQ=>Calls P f vs.toArray w Q) (λh hm=>h.mono hm) hs hd hrel (λd y hy H2 ai _ hok ha hn hf=>(ae.b_ f p hp).2 d y hy w H2 vs ai hok ha hn hf) h
theorem qk5(ae:qx P aa)(hC:qD C aa){f:Nat}{kp:Rb}(hp:lk aa.keeps f=some kp){l:List AV}{vs:List Value}(hs:qh P C s a w H Φ)(hd:qK aa.nt dst=true)(hrel:dl (qi P C w H Φ s.obj) l vs)
  (h:qhi s dst kp l k=some r):∃s',k s'=some r/\Calls P f vs.toArray w λe w''=>∃v,e = .returned v/\dS P C s' (a.put dst v) w'':=by
 unfold qhi at h
 cases h
theorem qoL(ae:qx P aa)(hC:qD C aa){f:Nat}{p:qS}(hp:lk aa.vI f=some p){l:List AV}{vs:List Value}(hs:qh P C s a w H Φ)(hd:qK aa.nt dst=true)(hrel:dl (qi P C w H Φ s.obj) l vs)
  {alt:Option R} (h:DE aa s dst p l alt k=some r):(∃s',k s'=some r/\Calls P f vs.toArray w λe w''=>∃v,e = .returned v/\dS P C s' (a.put dst v) w'')\/alt=some r:=by
 exact .inr h
theorem qi.keep{os os':Nat->Option Obj}{RZ:List (Nat×Bool×Ty)}(hos:∀id,(lk RZ id).isSome=true->os' id=os id):
  ∀{a b:AV} {v:Value},a.same b=true->a.within RZ=true->qi P C w H Φ os b v->qi P C w H Φ os' a v
 |.dead,_,_,_,_,_=>trivial
 |.ptr i p,b,v,hs,hw,h=>by
  cases b with
  |ptr j q=>
   simp only[AV.same,Bool.and_eq_true]at hs
   obtain rfl:=Nat.eq_of_beq_eq_true hs.1
   obtain rfl:=UH hs.2
   obtain⟨o,y,b,off,h1,h2⟩:=h
   exact⟨o,y,b,off,by rw[hos i hw];exact h1,h2⟩
  |_=>cases hs
 |.view i p,b,v,hs,hw,h=>by
  cases b with
  |view j q=>
   simp only[AV.same,Bool.and_eq_true]at hs
   obtain rfl:=Nat.eq_of_beq_eq_true hs.1
   obtain rfl:=UH hs.2
   obtain⟨o,y,h1,h2⟩:=h
   exact⟨o,y,by rw[hos i hw];exact h1,h2⟩
  |_=>cases hs
 |.fn f x y,b,v,hs,hw,h=>by
  cases b with
  |fn g x' y'=>
   simp only[AV.same,Bool.and_eq_true]at hs
   simp only[AV.within,Bool.and_eq_true]at hw
   obtain rfl:=Nat.eq_of_beq_eq_true hs.1.1
   obtain⟨vs,us,h1,h2,h3⟩:=h
   exact⟨vs,us,h1,qi.keep hos hs.1.2 hw.1 h2,qi.keep hos hs.2 hw.2 h3⟩
  |_=>cases hs
 |.nil,b,v,hs,_,h=>by
  cases b with
  |nil=>exact h
  |_=>cases hs
 |.gh n x,b,v,hs,hw,h=>by
  cases b with
  |gh m x'=>
   simp only[AV.same,Bool.and_eq_true]at hs
   simp only[AV.within]at hw
   obtain⟨u,h1,h2⟩:=h
   exact⟨u,by rw[Nat.eq_of_beq_eq_true hs.1];exact h1,qi.keep hos hs.2 hw h2⟩
  |_=>cases hs
 |.cons x y,b,v,hs,hw,h=>by
  cases b with
  |cons x' y'=>
   simp only[AV.same,Bool.and_eq_true]at hs
   simp only[AV.within,Bool.and_eq_true]at hw
   obtain⟨u,us,h1,h2,h3⟩:=h
   exact⟨u,us,h1,qi.keep hos hs.1 hw.1 h2,qi.keep hos hs.2 hw.2 h3⟩
  |_=>cases hs
 |.cv i f n,b,v,hs,_,h=>by
  cases b with
  |cv j g m=>
   simp only[AV.same,Bool.and_eq_true]at hs
   obtain rfl:=Nat.eq_of_beq_eq_true hs.1
   obtain rfl:=Nat.eq_of_beq_eq_true hs.2.1
   obtain rfl:=Nat.eq_of_beq_eq_true hs.2.2
   exact h
  |_=>cases hs
 |.val _ _,b,_,hs,_,_=>by cases b<;>cases hs
 |.ref _ _,b,_,hs,_,_=>by cases b<;>cases hs
 |.d_ _ _ _ _ _,b,_,hs,_,_=>by cases b<;>cases hs
 |.cut _ _ _ _,b,_,hs,_,_=>by cases b<;>cases hs
theorem MQ{t:Nat}{x:Option AV}{b:AV}(h:Hq t x=some b):x=some (AT t b):=by
 unfold Hq at h
 unfold AT
 split at h
 ·rename_i n a
  cases hb:Nat.ble 20000000 t with
  |true=>
   rw[hb,cond_true]at h
   cases hn:Nat.beq n t with
   |true=>rw[hn]at h;cases h;rw[Nat.eq_of_beq_eq_true hn];rfl
   |false=>rw[hn]at h;cases h
  |false=>rw[hb]at h;cases h;rfl
 ·cases hb:Nat.ble 20000000 t with
  |true=>rw[hb]at h;cases h
  |false=>rw[hb]at h;exact h
theorem MS{os os':Nat->Option Obj}{t:Nat}{a b:AV}(h:∀v,qi P C w H Φ os b v->qi P C w H Φ os' a v):∀v,qi P C w H Φ os (AT t b) v->qi P C w H Φ os' (AT t a) v:=by
 intro v hv
 unfold AT at hv ⊢
 cases hb:Nat.ble 20000000 t with
 |true=>
  rw[hb]at hv
  obtain⟨u,h1,h2⟩:=hv
  exact⟨u,h1,h u h2⟩
 |false=>rw[hb]at hv;exact h v hv
theorem B_{a:Int}(h:isZ a=true):a=0:=by
 cases a with
 |ofNat n=>rw[Nat.eq_of_beq_eq_true (n:=n) (m:=0) h];rfl
 |negSucc n=>cases h
theorem Y':∀{p q:List qu},Mi p q=true->p=q
 |[],[],_=>rfl
 |.L::p,.L::q,h=>by rw[Y' (p:=p) (q:=q) h]
 |.R::p,.R::q,h=>by rw[Y' (p:=p) (q:=q) h]
 |.I a::p,.I b::q,h=>by
  simp only[Mi,Bool.and_eq_true]at h
  rw[B_ h.1,B_ h.2.1,Y' h.2.2]
 |[],_::_,h=>by cases h
 |.L::_,[],h=>by cases h
 |.R::_,[],h=>by cases h
 |.I _::_,[],h=>by cases h
 |.L::_,.R::_,h=>by cases h
 |.L::_,.I _::_,h=>by cases h
 |.R::_,.L::_,h=>by cases h
 |.R::_,.I _::_,h=>by cases h
 |.I _::_,.L::_,h=>by cases h
 |.I _::_,.R::_,h=>by cases h
theorem Ry:∀{q1 q2 p:List qu} {n:Int},JX q1 q2 p=some n->p=q1 ++ .I n::q2
 |[],q2,.I i::p,n,h=>by
  simp only[JX]at h
  cases hz:Mi q2 p with
  |false=>rw[hz]at h;cases h
  |true=>rw[hz]at h;cases h;rw[Y' hz];rfl
 |.L::q1,q2,.L::p,n,h=>by rw[Ry (q1:=q1) (q2:=q2) (p:=p) h];rfl
 |.R::q1,q2,.R::p,n,h=>by rw[Ry (q1:=q1) (q2:=q2) (p:=p) h];rfl
 |[],_,[],_,h=>by cases h
 |[],_,.L::_,_,h=>by cases h
 |[],_,.R::_,_,h=>by cases h
 |.L::_,_,[],_,h=>by cases h
 |.L::_,_,.R::_,_,h=>by cases h
 |.L::_,_,.I _::_,_,h=>by cases h
 |.R::_,_,[],_,h=>by cases h
 |.R::_,_,.L::_,_,h=>by cases h
 |.R::_,_,.I _::_,_,h=>by cases h
 |.I _::_,_,[],_,h=>by cases h
 |.I _::_,_,.L::_,_,h=>by cases h
 |.I _::_,_,.R::_,_,h=>by cases h
 |.I _::_,_,.I _::_,_,h=>by cases h
theorem zT(hs:qh P C s a w H Φ){id:Nat}{p:List qu}{o:Obj}{tid:Nat}{e:Ty}{l:List e.den}{v:Value}(ho:s.obj id=some o)(hy:qU o.τ o.x p=some ⟨.list true tid e,l⟩)(hn:e.aD=true)(hr:qi P C w H Φ s.obj (.view id p) v):qi P C w H Φ s.obj (.d_ id p tid e l) v:=by
 obtain⟨cs,fp,hv,an,hsub,aq⟩:=wA hr ho (hs.os id o ho).1 hy
 have Ci:=an
 replace an:qm P (.list true tid e) w H l cs fp:=an
 replace hv:v=j7 (.list true tid e) cs:=hv
 obtain⟨ax,xs,aC,rfl,rfl,hown,hch⟩:=an
 have hv:v=ax:=hv
 subst hv
 refine⟨o,ho,hn,jH _ hy,v.ownBlock.toList++aC,aq,⟨v,xs,aC,rfl,rfl,hown,hch⟩,λb hb=>⟨((hs.os id o ho).2 b (hsub b hb)).2.2,.inr ?_⟩⟩
 obtain⟨o',y',q1,q2,q3⟩:=hr
 rw[ho]at q1
 cases q1
 rw[hy]at q2
 cases q2
 unfold ia
 cases gW:o.row&&p.isEmpty with
 |true=>
  exact hsub b hb
 |false=>
  rw[gW]at q3
  obtain⟨b2,off,blk,t,q4,q5,q6⟩:=q3
  refine⟨⟨.list true tid e,l⟩,b2,off,blk,t,v.ownBlock.toList++aC,hy,q4,q5,?_,hb⟩
  obtain⟨b',o',hl,aX,t',pre',c,post',f1,f,f2,e1,e2,e3,e4,e5,e6,_⟩:=(hs.os id o ho).1.desc (σ:=.list true tid e) (y:=(l:(Ty.list true tid e).den)) hy ⟨w,_,_,q4⟩ gW
  obtain⟨rfl,rfl⟩:=jV.fN q4 (hl w (λ_ _=>rfl))
  rw[e1]at q5
  cases q5
  have kN:=qZ e2 (qm.length _ e6)
  rw[e3]at kN
  simp only[kN]at q6 ⊢
  have hlc:=qm.length _ e6
  have hc:c=[v]:=by
   match c,hlc with
   |[u],_=>
    have:v=u:=q6
    rw[this]
  rw[hc]
  exact Ci
theorem qlz{os os':Nat->Option Obj}(hsub:∀id o,os' id=some o->os id=some o){id:Nat}(aF:os' id=os id){p:List qu}{tid:Nat}{e:Ty}{l:List e.den}{v:Value}(h:qi P C w H Φ os (.d_ id p tid e l) v):qi P C w H Φ os' (.d_ id p tid e l) v:=by
 obtain⟨o,h1,h3,h4,fp,h0,h5,h6⟩:=h
 exact⟨o,by rw[aF];exact h1,h3,h4,fp,h0,h5,λb hb=>⟨(h6 b hb).1,(h6 b hb).2.imp_left λhf=>⟨hf.fz,λj o hj=>hf.obj j o (hsub j o hj),hf.may,hf.lt⟩⟩⟩
theorem Kf(hs:qh P C s a w H Φ){RZ:List (Nat×Bool×Ty)}{os':Nat->Option Obj}(hos:∀id,(lk RZ id).isSome=true->os' id=s.obj id)(hsub:∀id o,os' id=some o->s.obj id=some o):
  ∀{l:List (Nat×Sh)} {d:om l},(l.all λx=>x.2.within RZ)=true->ve s l=some d->∀t av,lk (vh l d) t=some av->qi P C w H Φ os' av (a.tmps.getD t undef)
 |[],_,_,_,_,_,ht=>by cases ht
 |(u,.v τ)::l,d,hw,h,t,av,ht=>by
  simp only[List.all_cons,Bool.and_eq_true]at hw
  simp only[ve]at h
  split at h
  ·rename_i σ x hx
   split at h
   ·rename_i y d' hy dK
    cases h
    obtain⟨e,hy⟩:=qg hy
    subst e
    subst hy
    rw[vh,jW]at ht
    cases hb:Nat.beq u t with
    |true=>
     rw[hb]at ht
     cases ht
     obtain rfl:=Nat.eq_of_beq_eq_true hb
     exact MS (P:=P) (C:=C) (w:=w) (H:=H) (Φ:=Φ) (os:=s.obj) (os':=os') (a:=.val σ y) (b:=.val σ y) (λv hv=>hv) _ (hs.ts _ _ (MQ hx))
    |false=>
     rw[hb]at ht
     exact Kf hs hos hsub hw.2 dK t av ht
   ·cases h
  ·cases h
 |(u,.r τ)::l,d,hw,h,t,av,ht=>by
  simp only[List.all_cons,Bool.and_eq_true]at hw
  simp only[ve]at h
  split at h
  ·rename_i σ x hx
   split at h
   ·rename_i y d' hy dK
    cases h
    obtain⟨e,hy⟩:=qg hy
    subst e
    subst hy
    rw[vh,jW]at ht
    cases hb:Nat.beq u t with
    |true=>
     rw[hb]at ht
     cases ht
     obtain rfl:=Nat.eq_of_beq_eq_true hb
     exact MS (P:=P) (C:=C) (w:=w) (H:=H) (Φ:=Φ) (os:=s.obj) (os':=os') (a:=.ref σ y) (b:=.ref σ y) (λv hv=>hv) _ (hs.ts _ _ (MQ hx))
    |false=>
     rw[hb]at ht
     exact Kf hs hos hsub hw.2 dK t av ht
   ·cases h
  ·cases h
 |(u,.c b)::l,d,hw,h,t,av,ht=>by
  simp only[List.all_cons,Bool.and_eq_true]at hw
  simp only[ve]at h
  split at h
  ·rename_i b' hx
   cases hsame:b.same b' with
   |false=>rw[hsame]at h;cases h
   |true=>
    rw[hsame,cond_true]at h
    rw[vh,jW]at ht
    cases hb:Nat.beq u t with
    |true=>
     rw[hb]at ht
     cases ht
     obtain rfl:=Nat.eq_of_beq_eq_true hb
     exact MS (λv hv=>qi.keep hos hsame hw.1 hv) _ (hs.ts _ _ (MQ hx))
    |false=>
     rw[hb]at ht
     exact Kf hs hos hsub hw.2 h t av ht
  ·cases h
 |(u,.k g i τ)::l,d,hw,h,t,av,ht=>by
  simp only[List.all_cons,Bool.and_eq_true]at hw
  simp only[ve]at h
  split at h
  ·rename_i f j σ x hx
   cases hq:Nat.beq f g&&Nat.beq j i with
   |false=>rw[hq]at h;cases h
   |true=>
   rw[hq,cond_true]at h
   rw[Bool.and_eq_true]at hq
   obtain rfl:=Nat.eq_of_beq_eq_true hq.1
   obtain rfl:=Nat.eq_of_beq_eq_true hq.2
   split at h
   ·rename_i y d' hy dK
    cases h
    obtain⟨e,hy⟩:=qg hy
    subst e
    subst hy
    rw[vh,jW]at ht
    cases hb:Nat.beq u t with
    |true=>
     rw[hb]at ht
     cases ht
     obtain rfl:=Nat.eq_of_beq_eq_true hb
     refine MS (λv hv=>?_) _ (hs.ts _ _ (MQ hx))
     obtain⟨vs,us,h1,h2,u1,us1,h3,h4,h5⟩:=hv
     exact⟨vs,us,h1,h2,u1,us1,h3,qi.keep hos (a:=.ptr j []) (b:=.ptr j []) (by simp[AV.same,rW]) hw.1 h4,h5⟩
    |false=>
     rw[hb]at ht
     exact Kf hs hos hsub hw.2 dK t av ht
   ·cases h
  ·cases h
 |(u,.p vw i q1 q2)::l,d,hw,h,t,av,ht=>by
  simp only[List.all_cons,Bool.and_eq_true]at hw
  simp only[ve]at h
  split at h
  ·rename_i j p hx
   cases hq: !vw&&Nat.beq j i with
   |false=>rw[hq]at h;cases h
   |true=>
   rw[hq,cond_true]at h
   rw[Bool.and_eq_true,Bool.not_eq_true']at hq
   obtain⟨rfl,hq⟩:=hq
   obtain rfl:=Nat.eq_of_beq_eq_true hq
   split at h
   ·rename_i n d' hn dK
    cases h
    obtain rfl:=Ry hn
    rw[vh,jW]at ht
    cases hb:Nat.beq u t with
    |true=>
     rw[hb]at ht
     cases ht
     obtain rfl:=Nat.eq_of_beq_eq_true hb
     refine MS (λv hv=>?_) _ (hs.ts _ _ (MQ hx))
     obtain⟨o,y,b,off,k1,k2⟩:=hv
     exact⟨o,y,b,off,by rw[hos j hw.1];exact k1,k2⟩
    |false=>
     rw[hb]at ht
     exact Kf hs hos hsub hw.2 dK t av ht
   ·cases h
  ·rename_i j p hx
   cases hq:vw&&Nat.beq j i with
   |false=>rw[hq]at h;cases h
   |true=>
   rw[hq,cond_true]at h
   rw[Bool.and_eq_true]at hq
   obtain⟨rfl,hq⟩:=hq
   obtain rfl:=Nat.eq_of_beq_eq_true hq
   split at h
   ·rename_i n d' hn dK
    cases h
    obtain rfl:=Ry hn
    rw[vh,jW]at ht
    cases hb:Nat.beq u t with
    |true=>
     rw[hb]at ht
     cases ht
     obtain rfl:=Nat.eq_of_beq_eq_true hb
     refine MS (λv hv=>?_) _ (hs.ts _ _ (MQ hx))
     obtain⟨o,y,k1,k2⟩:=hv
     exact⟨o,y,by rw[hos j hw.1];exact k1,k2⟩
    |false=>
     rw[hb]at ht
     exact Kf hs hos hsub hw.2 dK t av ht
   ·cases h
  ·cases h
 |(u,.u i q1 q2 tid e)::l,d,hw,h,t,av,ht=>by
  simp only[List.all_cons,Bool.and_eq_true]at hw
  simp only[ve]at h
  split at h
  case h_2=>cases h
  rename_i y d' hy dK
  cases h
  rw[vh,jW]at ht
  cases hb:Nat.beq u t with
  |false=>
   rw[hb]at ht
   exact Kf hs hos hsub hw.2 dK t av ht
  |true=>
   rw[hb]at ht
   cases ht
   obtain rfl:=Nat.eq_of_beq_eq_true hb
   cases hx:Hq u (s.get u)with
   |none=>rw[hx]at hy;cases hy
   |some b=>
   rw[hx]at hy
   refine MS (os:=s.obj) (b:=b) (λv hv=>?_) _ (hs.ts _ _ (MQ hx))
   unfold rowAt at hy
   split at hy
   ·rename_i j p t' e' l' zC
    cases zC
    cases hj:Nat.beq j i with
    |false=>rw[hj]at hy;cases hy
    |true=>
    rw[hj,cond_true]at hy
    obtain rfl:=Nat.eq_of_beq_eq_true hj
    split at hy
    ·rename_i n l2 hn bn
     cases hy
     obtain rfl:=Ry hn
     obtain⟨_,rfl,rfl,rfl⟩:=Zp bn
     exact qlz hsub (hos _ hw.1) hv
    ·cases hy
   ·rename_i j p zC
    cases zC
    cases hj:Nat.beq j i&&e.aD with
    |false=>rw[hj]at hy;cases hy
    |true=>
    rw[hj,cond_true]at hy
    rw[Bool.and_eq_true]at hj
    obtain rfl:=Nat.eq_of_beq_eq_true hj.1
    split at hy
    ·rename_i n o hn ho
     obtain rfl:=Ry hn
     rw[jJ]at hy
     obtain⟨⟨σ,y0⟩,hy0,hy⟩:=Option.bind_eq_some_iff.1 hy
     rw[qj]at hy
     obtain⟨l2,bn,hy⟩:=Option.bind_eq_some_iff.1 hy
     cases hy
     obtain⟨rZ,KE⟩:=qfX bn
     simp only at rZ
     subst rZ
     obtain rfl:=eq_of_heq KE
     exact qlz hsub (hos _ hw.1) (zT hs ho hy0 hj.2 hv)
    ·cases hy
   ·cases hy
theorem qlb:∀{l:List (Nat×Bool×Ty)} {d:DY l},IX s l=some d->∀id,(lk (Tq l d) id).join=if(lk l id).isSome=true then s.obj id else none
 |[],_,_,_=>rfl
 |(i,b,τ)::l,d,h,id=>by
  simp only[IX]at h
  split at h
  ·rename_i o ho
   cases hrow:o.row==b with
   |false=>rw[hrow]at h;cases h
   |true=>
    rw[hrow,cond_true]at h
    split at h
    ·rename_i y d' hy dK
     cases h
     obtain⟨row,σ,x⟩:=o
     obtain⟨e,hy⟩:=qg hy
     simp only at e hrow
     subst e
     obtain rfl:row=b:=by simpa using hrow
     subst hy
     rw[Tq,jW,jW]
     cases hb:Nat.beq i id with
     |true=>
      obtain rfl:=Nat.eq_of_beq_eq_true hb
      simp[ho]
     |false=>exact qlb dK id
    ·cases h
  ·cases h
theorem qlI{sk:nB}{d:sk.Ff}(h:sk.get s=some d):(∀id o,(sk.fill d).obj id=some o->s.obj id=some o)/\CT s sk.mp=some d.2.2:=by
 unfold nB.get at h
 cases hw:sk.ts.all λx=>x.2.within sk.os with
 |false=>rw[hw]at h;cases h
 |true=>
 rw[hw,cond_true]at h
 split at h
 ·rename_i d1 d2 d3 h1 h2 h3
  cases h
  refine⟨λid o aF=>?_,h3⟩
  have IG:(lk (Tq sk.os d2) id).join=some o:=aF
  rw[qlb h2]at IG
  split at IG
  ·exact IG
  ·cases IG
 ·cases h
theorem qlJ{sk:nB}{d:sk.Ff}(h:sk.get s=some d)(hs:qh P C s a w H Φ):qh P C (sk.fill d) a w H Φ:=by
 have hsub:=(qlI h).1
 unfold nB.get at h
 cases hw:sk.ts.all λx=>x.2.within sk.os with
 |false=>rw[hw]at h;cases h
 |true=>
 rw[hw,cond_true]at h
 split at h
 ·rename_i d1 d2 d3 h1 h2 h3
  cases h
  exact hs.weaken hsub (Kf hs (RZ:=sk.os) (λid aF=>by
   have:=qlb h2 id
   rw[if_pos aF]at this
   exact this) hsub hw h1)
 ·cases h
theorem xS{a b:XK}:sj a b=true↔a=b:=by
 unfold sj
 rw[Bool.and_eq_true,beq_iff_eq,beq_iff_eq,Prod.ext_iff]
theorem Mp{a b:XK}(h:a≠b):sj a b=false:=by
 cases hq:sj a b with
 |false=>rfl
 |true=>exact absurd (xS.1 hq) h
section LI
variable {β:Type}
theorem Bd:∀(l:List (XK×β)) (q:XK) (v:β),jE (ep l q v) q=some v
 |[],q,v=>by simp[ep,jE,xS.2 (rfl:q=q)]
 |x::r,q,v=>by
  unfold ep
  cases h:sj x.1 q with
  |true=>simp[jE,xS.2 (rfl:q=q)]
  |false=>rw[cond_false];unfold jE;rw[h,cond_false];exact Bd r q v
theorem HG{q k:XK}(hne:k≠q)(v:β):∀(l:List (XK×β)),jE (ep l q v) k=jE l k
 |[]=>by simp[ep,jE,Mp (λe:q=k=>hne e.symm)]
 |x::r=>by
  unfold ep
  cases h:sj x.1 q with
  |true=>
   have e:=xS.1 h
   have h2:sj x.1 k=false:=Mp (λe2=>hne (e2.symm.trans e))
   have h3:sj q k=false:=Mp (λe2:q=k=>hne e2.symm)
   simp[jE,h2,h3]
  |false=>
   rw[cond_false]
   unfold jE
   rw[HG hne v r]
theorem RN:∀(l:List (XK×β)) (q:XK) (v:β),(ep l q v).length=if(jE l q).isSome then l.length else l.length+1
 |[],q,v=>by simp[ep,jE]
 |x::r,q,v=>by
  unfold ep jE
  cases h:sj x.1 q with
  |true=>simp
  |false=>
   rw[cond_false,cond_false,List.length_cons,RN r q v,List.length_cons]
   split<;>rfl
theorem Uu:∀(l:List (XK×β)) (q:XK) (v:β) (k:XK),k∈(ep l q v).map (·.1)↔k=q\/k∈l.map (·.1)
 |[],q,v,k=>by simp[ep]
 |x::r,q,v,k=>by
  unfold ep
  cases h:sj x.1 q with
  |true=>
   have e:=xS.1 h
   simp[e]
  |false=>
   rw[cond_false]
   simp only[List.map_cons,List.mem_cons,Uu r q v k]
   constructor
   ·rintro(h|h|h)
    ·exact .inr (.inl h)
    ·exact .inl h
    ·exact .inr (.inr h)
   ·rintro(h|h|h)
    ·exact .inr (.inl h)
    ·exact .inl h
    ·exact .inr (.inr h)
theorem qf8:∀(l:List (XK×β)) (q:XK) (v:β),(l.map (·.1)).Nodup->((ep l q v).map (·.1)).Nodup
 |[],q,v,_=>by simp[ep]
 |x::r,q,v,h=>by
  simp only[List.map_cons,List.nodup_cons]at h
  unfold ep
  cases hq:sj x.1 q with
  |true=>
   have e:=xS.1 hq
   rw[cond_true,List.map_cons,List.nodup_cons,<-e]
   exact h
  |false=>
   rw[cond_false]
   simp only[List.map_cons,List.nodup_cons,Uu]
   have hne:x.1≠q:=λe=>by rw[xS.2 e]at hq;cases hq
   exact⟨λhh=>hh.elim hne h.1,qf8 r q v h.2⟩
theorem qmb:∀{l:List (XK×β)} {q:XK},q∉l.map (·.1)->jE l q=none
 |[],_,_=>rfl
 |x::r,q,h=>by
  simp only[List.map_cons,List.mem_cons,not_or]at h
  unfold jE
  rw[Mp (λe=>h.1 e.symm),cond_false]
  exact qmb h.2
theorem qnZ:∀{l:List (XK×β)} {q:XK},q∈l.map (·.1)->(jE l q).isSome=true
 |[],_,h=>by simp at h
 |x::r,q,h=>by
  unfold jE
  cases hq:sj x.1 q with
  |true=>rfl
  |false=>
   rw[cond_false]
   simp only[List.map_cons,List.mem_cons]at h
   exact qnZ (h.resolve_left (λe=>by rw[xS.2 e.symm]at hq;cases hq))
theorem qjc{l:List (XK×β)}{q:XK}:(jE l q).isSome=true↔q∈l.map (·.1):=by
 constructor
 ·intro h
  cases hd:decide (q∈l.map (·.1))with
  |true=>exact of_decide_eq_true hd
  |false=>
   rw[qmb (of_decide_eq_false hd)]at h
   cases h
 ·exact qnZ
theorem qgc:∀{l:List (XK×β)},(l.map (·.1)).Nodup->∀{y:XK×β},y∈l->jE l y.1=some y.2
 |[],_,_,h=>by cases h
 |x::r,hn,y,h=>by
  simp only[List.map_cons,List.nodup_cons]at hn
  unfold jE
  rcases List.mem_cons.1 h with rfl|h
  ·rw[xS.2 rfl,cond_true]
  ·have hne:x.1≠y.1:=λe=>hn.1 (by rw[e];exact List.mem_map.2 ⟨y,h,rfl⟩)
   rw[Mp hne,cond_false]
   exact qgc hn.2 h
theorem Bb{k:XK}{y:XK×β}:∀{l:List (XK×β)},y∈ij k l↔y∈l/\y.1≠k
 |[]=>by simp[ij]
 |x::r=>by
  unfold ij
  cases hq:sj x.1 k with
  |true=>
   have e:=xS.1 hq
   rw[cond_true,Bb,List.mem_cons]
   constructor
   ·rintro⟨h1,h2⟩;exact⟨.inr h1,h2⟩
   ·rintro⟨h1|h1,h2⟩
    ·rw[h1]at h2;exact absurd e h2
    ·exact⟨h1,h2⟩
  |false=>
   have hne:x.1≠k:=λe=>by rw[xS.2 e]at hq;cases hq
   rw[cond_false,List.mem_cons,Bb,List.mem_cons]
   constructor
   ·rintro(h|⟨h1,h2⟩)
    ·exact⟨.inl h,by rw[h];exact hne⟩
    ·exact⟨.inr h1,h2⟩
   ·rintro⟨h1|h1,h2⟩
    ·exact .inl h1
    ·exact .inr ⟨h1,h2⟩
end LI
section SN
variable {β:Type} {ev:β->Value} {kt vt:Nat}
theorem FZ.empty:FZ P kt ev (.map []) ([]:List (XK×β)):=⟨λ_ _ _=>rfl,λ_ _ _ _=>rfl,rfl,List.nodup_nil,(λkl h=>by cases h),(λk h=>by cases h)⟩
theorem qom{a b:XK}(h:jS a=jS b):a=b:=by
 unfold jS at h
 injection h with h
 have h:=congrArg Array.toList h
 simp at h
 exact Prod.ext h.1 h.2
theorem qno(K:nv P kt){a b:XK}{la lb:Lit}(ha:keyOf P kt (jS a)=some la)(hb:keyOf P kt (jS b)=some lb)(hne:a≠b):la≠lb:=by
 rintro rfl
 exact hne (qom (K.keyed.inj ha hb))
theorem FZ.put{D:MV}{kv:List (XK×β)}(K:nv P kt)(h:FZ P kt ev D kv)(hD:Maps.Tidy D){q:XK}{kl:Lit}(hk:keyOf P kt (jS q)=some kl)(v:β):FZ P kt ev (D.put kl (.held (ev v))) (ep kv q v):=by
 refine⟨λk l hl=>?_,λk l z hl=>?_,?_,qf8 _ _ _ h.nd,λl hl=>?_,λk hk2=>?_⟩
 ·by_cases e:k=q
  ·subst e
   rw[hk]at hl
   cases hl
   rw[Maps.has_put_same hD.isMap (K.keyed.key hk),Bd];rfl
  ·rw[Maps.has_put_other (qno K hl hk e),HG e];exact h.has k l hl
 ·by_cases e:k=q
  ·subst e
   rw[hk]at hl
   cases hl
   rw[Maps.atKey_put_same hD.isMap (K.keyed.key hk),Bd]
  ·rw[Maps.atKey_put_other (qno K hl hk e),HG e];exact h.val k l z hl
 ·rw[Maps.size_put hD,RN,h.has q kl hk,h.size]
 ·by_cases e:l=kl
  ·subst e
   exact⟨q,(Uu _ _ _ _).2 (.inl rfl),hk⟩
  ·rw[Maps.has_put_other e]at hl
   obtain⟨k,k1,k2⟩:=h.keys l hl
   exact⟨k,(Uu _ _ _ _).2 (.inr k1),k2⟩
 ·rcases(Uu _ _ _ _).1 hk2 with rfl|h1
  ·exact⟨kl,hk⟩
  ·exact h.kof k h1
theorem qjQ{k:TypeId}{Rd:Value->Option (MV×List MemPlace)}{b n:Nat}{D:MV}(h:w.ownsMap P k Rd b n D):w.ownsMap P k Rd b (Maps.size D) D:=by
 obtain⟨es,clock,h1,h2,_,rfl⟩:=h
 exact⟨es,clock,h1,h2,by simp[Maps.size,length_sorted],rfl⟩
theorem rS.look{l:List (XK×β)}{b:Nat}(h:rS P kt ev w b l)(K:nv P kt){T:TypeId}(hT:P.underlying T=some (.map kt vt)){z0:β}(hz:(zeroValue vt).run P w = .ok (ev z0) w){q:XK}(h1:lN q.1=true)(h2:lN q.2=true):
  (Instr.lookup T (.map (some b)) (jS q) true).run P w = .ok (.tuple #[ev ((jE l q).getD z0),.bool (jE l q).isSome]) w/\(Instr.lookup T (.map (some b)) (jS q) false).run P w = .ok (ev ((jE l q).getD z0)) w:=by
 obtain⟨kl,hk⟩:=K.key q h1 h2
 obtain⟨D,hown,hrel⟩:=h
 have hv:∀v ps,rR v=some (D.atKey kl (.held (ev z0)),ps)->v=ev ((jE l q).getD z0):=by
  intro v ps hh
  rw[hrel.val q kl _ hk]at hh
  unfold rR at hh
  injection hh with hh
  injection hh with hh _
  cases hq:jE l q with
  |none=>rw[hq]at hh;injection hh
  |some u=>rw[hq]at hh;injection hh
 constructor
 ·obtain⟨v,ps,hrun,CO⟩:=hown.look_ok K.keyed hT hz (zd:=.held (ev z0)) (zp:=[]) rfl hk
  rw[hrun,hv v ps CO,hrel.has q kl hk]
 ·obtain⟨v,ps,hrun,CO⟩:=hown.lookup K.keyed hT hz (zd:=.held (ev z0)) (zp:=[]) rfl hk
  rw[hrun,hv v ps CO]
theorem rS.put{l:List (XK×β)}{b:Nat}(h:rS P kt ev w b l)(K:nv P kt){T:TypeId}(hT:P.underlying T=some (.map kt vt)){q:XK}(h1:lN q.1=true)(h2:lN q.2=true)(hl:(l.length:Int)<=274877906944)(v:β):
  ∃w',(Instr.mapUpdate T (.map (some b)) (jS q) (ev v)).run P w = .ok () w'/\rS P kt ev w' b (ep l q v)/\jO (· = b) w w':=by
 obtain⟨kl,hk⟩:=K.key q h1 h2
 obtain⟨D,hown,hrel⟩:=h
 obtain⟨w',hrun,hown',tX⟩:=hown.store K.keyed hT (by unfold maxLen;omega) hk (val:=ev v) (d:=.held (ev v)) (ps:=[]) rfl
 have kB:=hrel.put K (hown.tidy K.keyed) hk v
 have hg:=tX.grown
 refine⟨w',hrun,⟨_,?_,kB⟩,⟨hg.os,hg.tape,hg.output,hg.size,λi hi hne=>hg.block i hi (λe=>hne (by injection e))⟩⟩
 rw[<-kB.size]
 exact qjQ hown'
end SN
theorem jN{α:Type}{o:Option α}{f:α->Option R}(h:qa o f=some r):∃x,o=some x/\f x=some r:=by
 cases o with
 |none=>cases h
 |some x=>exact⟨x,rfl,h⟩
theorem Mz{a b:Value}(h:[a]=[b]):a=b:=by injection h
theorem Y_{own:Bool}{n i j:Nat}{cs:List Value}{y:qc6 n}{fp:List Nat}(h:qY P own i j w H n y cs fp):cs=[j7 (.ext own n i j) cs]:=by
 obtain⟨v,e,_⟩:=qY.shape h
 rw[e]
 rfl
theorem qn0{b:AV}{v:Value}{f:XK->Option R}(hr:qi P C w H Φ s.obj b v)(h:Is b f=some r):∃q:XK,v=jS q/\lN q.1=true/\lN q.2=true/\f q=some r:=by
 unfold Is at h
 split at h
 case h_2=>cases h
 rename_i τ x
 rw[qj]at h
 replace h:=Option.bind_eq_some_iff.1 h
 obtain⟨q,hq,h⟩:=h
 obtain⟨e,hq⟩:=qg hq
 subst e
 subst hq
 obtain⟨_,cs,hv,c1,c2,f1,f2,e1,_,⟨h1,_⟩,⟨h2,_⟩⟩:=hr
 refine⟨q,?_,?_⟩
 ·rw[hv,e1,h1,h2];rfl
 ·unfold dR at h
  cases k1:lN (q:XK).1 with
  |false=>rw[k1]at h;cases h
  |true=>
   cases k2:lN (q:XK).2 with
   |false=>rw[k1,k2]at h;cases h
   |true=>rw[k1,k2]at h;exact⟨rfl,rfl,h⟩
theorem qi.nK(w:World)(H:FH)(Φ:Nat->qH)(os:Nat->Option Obj)(q:XK):qi P C w H Φ os (.val nK q) (jS q):=
 ⟨rfl,[.int .i64 q.1,.int .i64 q.2],rfl,[.int .i64 q.1],[.int .i64 q.2],[],[],rfl,rfl,⟨rfl,rfl⟩,⟨rfl,rfl⟩⟩
theorem qi.FQ(w:World)(H:FH)(Φ:Nat->qH)(os:Nat->Option Obj)(y:XK×XK):qi P C w H Φ os (.val FQ y) (uD y):=
 ⟨rfl,sG y,rfl,[.int .i64 y.1.1,.int .i64 y.1.2],[.int .i64 y.2.1,.int .i64 y.2.2],[],[],rfl,rfl,⟨[.int .i64 y.1.1],[.int .i64 y.1.2],[],[],rfl,rfl,⟨rfl,rfl⟩,⟨rfl,rfl⟩⟩,⟨[.int .i64 y.2.1],[.int .i64 y.2.2],[],[],rfl,rfl,⟨rfl,rfl⟩,⟨rfl,rfl⟩⟩⟩
theorem qjX{y:XK×XK}{w:World}{H:FH}{cs fp}(h:qm P FQ w H y cs fp):cs=sG y/\fp=[]:=by
 obtain⟨c1,c2,f1,f2,rfl,rfl,⟨a1,a2,g1,g2,rfl,rfl,⟨rfl,rfl⟩,⟨rfl,rfl⟩⟩,⟨b1,b2,g3,g4,rfl,rfl,⟨rfl,rfl⟩,⟨rfl,rfl⟩⟩⟩:=h
 exact⟨rfl,rfl⟩
theorem qfW{w:World}{H:FH}:∀{l:List (XK×XK)} {xs fp},qd (qm P FQ w H) l xs fp->xs=(l.map sG).flatten/\fp=[]
 |[],_,_,⟨e,e'⟩=>⟨e,e'⟩
 |y::l,_,_,⟨c,xs',f,aC,e1,e2,h1,h2⟩=>by
  obtain⟨h3,h4⟩:=qfW h2
  obtain⟨h5,h6⟩:=qjX (y:=y) h1
  rw[e1,e2,h3,h4,h5,h6]
  exact⟨rfl,rfl⟩
theorem qhV{F:AV->Bool}(hs:qh P C s a w H Φ){id:Nat}{p:List qu}{o:Obj}(ho:s.obj id=some o){n i j:Nat}{y:qc6 n}(hy:qU o.τ o.x p=some ⟨.ext true n i j,y⟩){v:Value}(hr:qi P C w H Φ s.obj (.view id p) v)(hF:F=AV.bB id o.row\/(F=AV.lJ id/\o.row=false/\p.any qu.dW=false)):
  ∃f,qY P true i j w H n y [v] f/\f.Nodup/\(∀k∈f,H k=none)/\(∀k∈f,k∈(Φ id).fp)/\
   ∀(w':World) (f':List Nat) (y':qc6 n) (z:o.τ.den),jO (· ∈f) w w'->qY P true i j w' H n y' [v] f'->f'.Nodup->(∀k∈f',k∈f\/w.heap.size<=k)->j6 o.τ o.x p (.ext true n i j) y'=some z->
    ∃aU,qh P C ((s.af F).setObj id (some ⟨o.row,o.τ,z⟩)) a w' H aU/\∀j o',((s.af F).setObj id (some ⟨o.row,o.τ,z⟩)).obj j=some o'->∀k,k∈f\/w.heap.size<=k->k∉f'->k∉(aU j).fp:=by
 obtain⟨o',y',q1,q2,q3⟩:=hr
 rw[ho]at q1
 cases q1
 rw[hy]at q2
 cases q2
 have hok:=(hs.os id o ho).1
 have bF:=(hs.os id o ho).2
 have fin:∀(w':World) (f f' F':List Nat) (z:o.τ.den),(∀k∈f,k∈(Φ id).fp)->jO (· ∈f) w w'->(∀k∈F',(k∈(Φ id).fp\/(w.heap.size<=k/\k<w'.heap.size)))->qR P w' H ⟨o.row,o.τ,z⟩ ⟨(Φ id).b,(Φ id).ax,F'⟩->(∀k,k∈f\/w.heap.size<=k->k∉f'->k∉F')->(o.row=false->p.any qu.dW=false->w'.heap[(Φ id).b]? = w.heap[(Φ id).b]?)->
   ∃aU,qh P C ((s.af F).setObj id (some ⟨o.row,o.τ,z⟩)) a w' H aU/\∀j o',((s.af F).setObj id (some ⟨o.row,o.τ,z⟩)).obj j=some o'->∀k,k∈f\/w.heap.size<=k->k∉f'->k∉(aU j).fp:=by
  intro w' f f' F' z hin hm hF' bh Wf gX
  have NI:cI H w':=hs.hok.mod hm (λk hk=>(bF k (hin k hk)).1)
  have CA:∀j o',((s.af F).setObj id (some ⟨o.row,o.τ,z⟩)).obj j=some o'->∀k,k∈f\/w.heap.size<=k->k∉f'->k∉(rX Φ id ⟨(Φ id).b,(Φ id).ax,F'⟩ j).fp:=by
   intro j o' hj k hk hk'
   rw[St.ak]at hj
   by_cases hji:j=id
   ·rw[hji,qt]
    exact Wf k hk hk'
   ·rw[qW _ _ hji]
    rw[if_neg (λe=>hji e.symm)]at hj
    intro hkj
    rcases hk with hk|hk
    ·exact hs.aN id j o o' (λe=>hji e.symm) ho hj k (hin k hk) hkj
    ·have:=((hs.os j o' hj).2 k hkj).2.2
     omega
  refine⟨_,?_,CA⟩
  exact hs.lu (F:=F) ho z ⟨(Φ id).b,(Φ id).ax,F'⟩ rfl rfl (FH.le_refl _) NI hs.hnew (hs.mod.bA hm (λk hk=>(bF k (hin k hk)).2.1)) hm.size (λj o2 hj cu k hk=>⟨hm.block k ((hs.os j o2 cu).2 k hk).2.2 (λNM=>hs.aN j id o2 o hj cu ho k hk (hin k NM)),((hs.os j o2 cu).2 k hk).1⟩) bh (by
   intro k hk
   rcases hF' k hk with h1|⟨h1,h2⟩
   ·obtain⟨p1,p2,p3⟩:=bF k h1
    exact⟨p1,p2,Nat.lt_of_lt_of_le p3 hm.size,λj o2 hj cu=>hs.aN id j o o2 (λe=>hj e.symm) ho cu k h1⟩
   ·refine⟨?_,.inr (Nat.le_trans hs.mod.size h1),h2,λj o2 _ cu hkj=>?_⟩
    ·cases hq:H k with
     |none=>rfl
     |some c=>exact absurd (hs.hok.lt hq) (by omega)
    ·have:=((hs.os j o2 cu).2 k hkj).2.2
     omega) (λq hf=>.inl (by
    rcases hF with rfl|⟨rfl,_⟩
    ·simpa[AV.bB]using hf
    ·simpa[AV.lJ]using hf)) (λ_ _ _ _ _=>by rcases hF with rfl|⟨rfl,_⟩<;>rfl) (λq hf=>by
    rcases hF with rfl|⟨rfl,hrow,hp⟩
    ·refine .inl ?_
     simp only[AV.bB,Nat.beq_refl,Bool.true_and,Bool.not_eq_false']at hf
     exact hf
    ·refine .inr λy b off blk t _ hy' fW Li=>?_
     have hq:q.any qu.dW=false:=by simpa[AV.lJ]using hf
     obtain⟨y',hy2⟩:=RM o.τ z hq (jH _ hy')
     have VS:jV w' ⟨o.row,o.τ,z⟩ ⟨(Φ id).b,(Φ id).ax,F'⟩ q b off:=by
      unfold jV at fW ⊢
      simp only[hrow]at fW ⊢
      exact jT.static _ hq fW
     have hb:b=(Φ id).b:=by
      unfold jV at fW
      simp only[hrow]at fW
      exact jT.root _ hq fW
     exact⟨⟨y.1,y'⟩,b,off,blk,t,rfl,hy2,VS,by rw[hb]at Li ⊢;rw[gX hrow hp];exact Li,rfl⟩)
 cases gW:o.row&&p.isEmpty with
 |true=>
  rw[gW]at q3
  simp only at q3
  subst q3
  obtain⟨row,τ,x⟩:=o
  simp only[Bool.and_eq_true,List.isEmpty_iff]at gW
  obtain⟨rfl,rfl⟩:=gW
  rw[qO]at hy
  cases hy
  obtain⟨hn,aq,hrow,cs,hcs,an⟩:=hok
  have abw:cs=[(Φ id).ax]:=by rw[hcs];exact Y_ (n:=n) an
  have tZ:qY P true i j w H n x [(Φ id).ax] (Φ id).fp:=by rw[<-abw];exact an
  refine⟨(Φ id).fp,tZ,aq,λk hk=>(bF k hk).1,λk hk=>hk,λw' f' y' z hm gA aO hf' hz=>?_⟩
  rw[qiD]at hz
  have hz:=qoI hz
  subst hz
  exact fin w' (Φ id).fp f' f' _ (λk hk=>hk) hm (λk hk=>(hf' k hk).imp_right (λh1=>⟨h1,(qY.dat gA k hk).lt⟩)) ⟨hn,aO,hrow,[(Φ id).ax],rfl,gA⟩ (λk _ hk=>hk) (λh=>by cases h)
 |false=>
  rw[gW]at q3
  obtain⟨b,off,blk,t,bP,hblk,hv⟩:=q3
  obtain⟨b',o',aX,t',pre',c,post',f1,f,f2,e1,e2,e3,e4,e5,e6,hl',e7⟩:=hok.h_ hy ⟨w,_,_,bP⟩ gW
  obtain⟨rfl,rfl⟩:=jV.fN bP (hl' w (λ_ _=>rfl))
  rw[hblk]at e1
  cases e1
  have hcv:c=[v]:=by
   have eB:ct blk off (Ty.ext true n i j).size=c:=by rw[<-e3];exact qZ e2 (qm.length _ e6)
   rw[hv,eB]
   exact Y_ (n:=n) e6
  subst hcv
  have aq:=hok.2.1
  rw[e4]at aq
  have jb:f.Nodup:=(List.nodup_append.1 (List.nodup_append.1 aq).1).2.1
  have hin:∀k∈f,k∈(Φ id).fp:=λk hk=>by rw[e4];simp[hk]
  have uc:∀k∈f1,k∈(Φ id).fp:=λk hk=>by rw[e4];simp[hk]
  have kP:∀k∈f2,k∈(Φ id).fp:=λk hk=>by rw[e4];simp[hk]
  have kD:∀k∈f1,k∉f:=λk h1 h2=>(List.nodup_append.1 (List.nodup_append.1 aq).1).2.2 k h1 k h2 rfl
  have oM:∀k∈f2,k∉f:=λk h1 h2=>(List.nodup_append.1 aq).2.2 k (by simp[h2]) k h1 rfl
  refine⟨f,e6,jb,λk hk=>(bF k (hin k hk)).1,hin,λw' f' y' z hm gA aO hf' hz=>?_⟩
  have kG:b∉f:=kD b e5
  have IP:b<w.heap.size:=(Array.getElem?_eq_some_iff.1 hblk).1
  have CH:w'.heap[b]? = some (.cells (pre'++[v]++post').toArray t (0,0)):=by
   rw[hm.block b IP kG,hblk]
   rw[<-e2]
  have Cs:(f1++f'++f2).Nodup:=by
   have k1:=List.nodup_append.1 aq
   have k2:=List.nodup_append.1 k1.1
   rw[List.nodup_append,List.nodup_append]
   refine⟨⟨k2.1,aO,?_⟩,k1.2.1,?_⟩
   ·rintro x hx _ hx2 rfl
    rcases hf' x hx2 with h1|h1
    ·exact kD x hx h1
    ·have:=(bF x (uc x hx)).2.2;omega
   ·rintro x hx _ hx2 rfl
    rcases List.mem_append.1 hx with h1|h1
    ·exact k1.2.2 x (by simp[h1]) x hx2 rfl
    ·rcases hf' x h1 with h1|h1
     ·exact oM x hx2 h1
     ·have:=(bF x (kP x hx2)).2.2;omega
  have Cn:=e7 w' [v] f' (.ext true n i j) y' z gA hz CH (by
   intro k hk _
   rcases List.mem_append.1 hk with h1|h1
   ·exact hm.block k (bF k (uc k h1)).2.2 (kD k h1)
   ·exact hm.block k (bF k (kP k h1)).2.2 (oM k h1)) Cs
  refine fin w' f f' (f1++f'++f2) z hin hm (λk hk=>?_) Cn (λk hk hk' KW=>?_) (λhrow hp=>?_)
  rotate_left
  ·rcases List.mem_append.1 KW with h1|h1
   ·rcases List.mem_append.1 h1 with h1|h1
    ·rcases hk with hk|hk
     ·exact kD k h1 hk
     ·have:=(bF k (uc k h1)).2.2;omega
    ·exact hk' h1
   ·rcases hk with hk|hk
    ·exact oM k h1 hk
    ·have:=(bF k (kP k h1)).2.2;omega
  ·have hb:b=(Φ id).b:=by
    unfold jV at bP
    simp only[hrow]at bP
    exact jT.root _ hp bP
   rw[<-hb]
   exact hm.block b IP kG
  rcases List.mem_append.1 hk with h1|h1
  ·rcases List.mem_append.1 h1 with h1|h1
   ·exact .inl (uc k h1)
   ·rcases hf' k h1 with h2|h2
    ·exact .inl (hin k h2)
    ·exact .inr ⟨h2,(qY.dat gA k h1).lt⟩
  ·exact .inl (kP k h1)
theorem UA(hs:qh P C s a w H Φ){id:Nat}{p:List qu}{o:Obj}(ho:s.obj id=some o){n i j:Nat}{y:qc6 n}(hy:qU o.τ o.x p=some ⟨.ext true n i j,y⟩){v:Value}(hr:qi P C w H Φ s.obj (.view id p) v):
  ∃f,qY P true i j w H n y [v] f/\f.Nodup/\(∀k∈f,H k=none)/\
   ∀(w':World) (f':List Nat) (y':qc6 n) (z:o.τ.den),jO (· ∈f) w w'->qY P true i j w' H n y' [v] f'->f'.Nodup->(∀k∈f',k∈f\/w.heap.size<=k)->j6 o.τ o.x p (.ext true n i j) y'=some z->
    ∃aU,qh P C ((s.af (AV.bB id o.row)).setObj id (some ⟨o.row,o.τ,z⟩)) a w' H aU:=by
 obtain⟨f,h1,h2,h3,_,h4⟩:=qhV hs ho hy hr (.inl rfl)
 exact⟨f,h1,h2,h3,λw' f' y' z q1 q2 q3 q4 q5=>let⟨aU,h,_⟩:=h4 w' f' y' z q1 q2 q3 q4 q5;⟨aU,h⟩⟩
theorem De(hs:qh P C s a w H Φ){av:AV}{v:Value}(hr:qi P C w H Φ s.obj av v){f:(n i j:Nat)->qc6 n->Option R}(h:Df s av f=some r):
  ∃n i j y,f n i j y=some r/\∃own fp,(own=true\/n=0)/\∀w',jO jA w w'->qY P own i j w' H n y [v] fp:=by
 unfold Df at h
 split at h
 ·rename_i o n i j x
  cases hn:Nat.beq n 0 with
  |false=>rw[hn]at h;cases h
  |true=>
   rw[hn,cond_true]at h
   obtain rfl:=Nat.eq_of_beq_eq_true hn
   obtain⟨hf,cs,hv,an⟩:=hr
   have ho:o=false:=by simpa[Ty.ay]using hf
   subst ho
   refine⟨0,i,j,x,h,false,[],.inr rfl,λw' hm=>?_⟩
   have h2:=qY.mono (n:=0) (H':=H) (FH.le_refl H) (w':=w') (by simp) (show qY P false i j w H 0 x cs []from an)
   rw[Y_ (n:=0) h2,<-hv]at h2
   exact h2
 ·rename_i id p
  split at h
  case h_2=>cases h
  rename_i o ho
  rw[jJ]at h
  obtain⟨⟨σ,y⟩,hy,h⟩:=Option.bind_eq_some_iff.1 h
  simp only at h
  split at h
  case h_2=>cases h
  rename_i n i j y'
  obtain⟨cs,fp,hv,an,hsub,_⟩:=wA hr ho (hs.os id o ho).1 hy
  refine⟨n,i,j,y',h,true,fp,.inl rfl,λw' hm=>?_⟩
  have h2:=qY.mono (n:=n) (H':=H) (FH.le_refl H) (w':=w') (λk hk=>hm.block k ((hs.os id o ho).2 k (hsub k hk)).2.2 (λhh=>hh)) (show qY P true i j w H n y' cs fp from an)
  rw[Y_ (n:=n) h2,<-hv]at h2
  exact h2
 ·cases h
theorem BI(ae:qx P aa)(hC:qD C aa){T:TypeId}{x q:Operand}{ok:Bool}{av bv:AV}(hs:qh P C s a w H Φ)(hd:qK aa.nt dst=true)(hr:qi P C w H Φ s.obj av (a.eval x))(fh:qi P C w H Φ s.obj bv (a.eval q))(h:BJ aa s dst T av bv ok k=some r):
  ∃s',k s'=some r/\fG P C ⟨dst,.lookup T x q ok,ty,pos,after,guard⟩ a w s':=by
 unfold BJ at h
 replace h:=De hs hr h
 obtain⟨n,i,j,y,h,own,fp,hown,an⟩:=h
 cases hc:j4 i aa.iM&&(decide (lk aa.ty T=some (.ext false n i j))&&decide (lk aa.ty j=some (JN n)))with
 |false=>rw[hc]at h;cases h
 |true=>
 rw[hc,cond_true]at h
 simp only[Bool.and_eq_true,decide_eq_true_eq]at hc
 obtain⟨hi,hT,hj⟩:=hc
 replace h:=qn0 fh h
 obtain⟨u,hu,k1,k2,h⟩:=h
 have K:=ae.keys i hi
 have a_:=(ae.ty T _ hT).1
 have VA:=(ae.ty j _ hj).1
 match n,y,h,an,a_,VA,hown with
 |0,y,h,an,a_,VA,_=>
  replace h:=jN (α:=List (XK×XK)) (o:=y) h
  obtain⟨l,hl,h⟩:=h
  subst hl
  have hX:∀w',jO jA w w'->∃b,a.eval x = .map (some b)/\rS P i jS w' b l:=by
   intro w' hm
   have h0:=an w' hm
   obtain⟨b,e,h1⟩:=h0
   refine⟨b,Mz e,?_⟩
   cases own with
   |true=>exact h1.2
   |false=>
    obtain⟨_,c,hc,hF⟩:=h1
    exact hF.U' (hs.hok.mod hm (λ_ hb=>hb.elim) b c hc)
  have hrun:∀w',jO jA w w'->(execOp a.eval ⟨dst,.lookup T x q true,ty,pos,after,guard⟩).run P w' = .ok (.value (.tuple #[jS ((jE l u).getD ((0:Int),(0:Int))),.bool (jE l u).isSome])) w'/\(execOp a.eval ⟨dst,.lookup T x q false,ty,pos,after,guard⟩).run P w' = .ok (.value (jS ((jE l u).getD ((0:Int),(0:Int))))) w':=by
   intro w' hm
   obtain⟨b,e,hb⟩:=hX w' hm
   obtain⟨g1,g2⟩:=hb.look K (a_.zL rfl) (z0:=((0:Int),(0:Int))) (VA.zeroValue w') k1 k2
   exact⟨by simp[execOp,e,hu,g1],by simp[execOp,e,hu,g2]⟩
  cases ok with
  |true=>
   rw[cond_true]at h
   exact⟨_,h,qr hs hC hd (v:=.tuple #[jS ((jE l u).getD ((0:Int),(0:Int))),.bool (jE l u).isSome]) ⟨_,[.bool (jE l u).isSome],rfl,qi.nK _ _ _ _ _,.bool (jE l u).isSome,[],rfl,qi.bC _ _ _ _ _,rfl⟩ (λw' hm=>(hrun w' hm).1)⟩
  |false=>
   rw[cond_false]at h
   exact⟨_,h,qr hs hC hd (v:=jS ((jE l u).getD ((0:Int),(0:Int)))) (qi.nK _ _ _ _ _) (λw' hm=>(hrun w' hm).2)⟩
 |1,y,h,an,a_,VA,hown=>
  obtain rfl:own=true:=hown.resolve_right (by decide)
  replace h:=jN (α:=List (XK×Int)) (o:=y) h
  obtain⟨l,hl,h⟩:=h
  subst hl
  have hrun:∀w',jO jA w w'->(execOp a.eval ⟨dst,.lookup T x q true,ty,pos,after,guard⟩).run P w' = .ok (.value (.tuple #[xZ ((jE l u).getD (0:Int)),.bool (jE l u).isSome])) w'/\(execOp a.eval ⟨dst,.lookup T x q false,ty,pos,after,guard⟩).run P w' = .ok (.value (xZ ((jE l u).getD (0:Int)))) w':=by
   intro w' hm
   obtain⟨b,e,_,hb⟩:=an w' hm
   replace e:=Mz e
   obtain⟨g1,g2⟩:=hb.look K (a_.zL rfl) (z0:=(0:Int)) (VA.zeroValue w') k1 k2
   exact⟨by simp[execOp,e,hu,g1],by simp[execOp,e,hu,g2]⟩
  cases ok with
  |true=>
   rw[cond_true]at h
   exact⟨_,h,qr hs hC hd (v:=.tuple #[xZ ((jE l u).getD (0:Int)),.bool (jE l u).isSome]) ⟨_,[.bool (jE l u).isSome],rfl,qi.bc _ _ _ _ _ _,.bool (jE l u).isSome,[],rfl,qi.bC _ _ _ _ _,rfl⟩ (λw' hm=>(hrun w' hm).1)⟩
  |false=>
   rw[cond_false]at h
   exact⟨_,h,qr hs hC hd (v:=xZ ((jE l u).getD (0:Int))) (qi.bc _ _ _ _ _ _) (λw' hm=>(hrun w' hm).2)⟩
 |n+2,y,h,_,_,_,_=>cases h
theorem qnh{l:List (XK×XK)}{k0:Option R}{f:XK×XK->Option R}{u:XK×XK}(hu:u∈l)(h:Mm l k0 f=some r):f u=some r:=by
 cases l with
 |nil=>cases hu
 |cons x l=>exact Ui h u hu
theorem ww{b:Bool}{x:Option R}(h:(bif b then x else none)=some r):b=true/\x=some r:=by
 cases b with
 |false=>cases h
 |true=>exact⟨rfl,h⟩
theorem qh.lS(hs:qh P C s a w H Φ)(ae:qx P aa)(hC:qD C aa){d:Nat}(hd:d<aa.nt){n i j:Nat}{y:qc6 n}{v:Value}{w':World}{fp:List Nat}(hm:jO jA w w')(aq:fp.Nodup)
  (an:qY P true i j w' H n y [v] fp) (hnew:∀b∈fp,H b=none/\(C.M0 b\/C.w0.heap.size<=b)/\b<w'.heap.size/\∀j o',j≠d->s.obj j=some o'->b∉(Φ j).fp):
  ∃aU,qh P C ((s.newObj d true (.ext true n i j) y).set d (.view d [])) (a.put (some d) v) w' H aU:=by
 have VR:=ae.low hd
 have h1:=hs.newObj hm (hC.gQ d (Nat.lt_trans VR (by decide))) (φ:=⟨0,v,fp⟩) (uE VR) (row:=true) (τ:=.ext true n i j) (x:=y)
  ⟨rfl,aq,rfl,[v],rfl,an⟩ hnew
 refine⟨_,h1.set (by rw[hC.nt];exact hd) ⟨⟨true,.ext true n i j,y⟩,⟨.ext true n i j,y⟩,?_,qO _ _,?_⟩⟩
 ·rw[St.newObj,St.ak,if_pos rfl]
 ·simp only[List.isEmpty_nil,Bool.and_self,qt]
theorem qh.oR(hs:qh P C s a w H Φ){d:Nat}{w':World}(hsz:w.heap.size<w'.heap.size):∀b∈[w.heap.size],H b=none/\(C.M0 b\/C.w0.heap.size<=b)/\b<w'.heap.size/\∀j o',j≠d->s.obj j=some o'->b∉(Φ j).fp:=by
 intro b hb
 rw[List.mem_singleton.1 hb]
 refine⟨?_,.inr hs.mod.size,hsz,λj o' _ hj dY=>?_⟩
 ·cases hq:H w.heap.size with
  |none=>rfl
  |some c=>exact absurd (hs.hok.lt hq) (by omega)
 ·have:=((hs.os j o' hj).2 _ dY).2.2
  omega
theorem Ux{τ:Ty}{x:τ.den}{p:List qu}{σ:Ty}{y:σ.den}{f:τ.den->Option R}(h:iT τ x p σ y f=some r):∃z,j6 τ x p σ y=some z/\f z=some r:=by
 rw[sO]at h
 exact Option.bind_eq_some_iff.1 h
theorem qgi{τ:Ty}{x:τ.den}{p:List qu}{f:(σ:Ty)->σ.den->Option R}(h:iS τ x p f=some r):∃y,qU τ x p=some y/\f y.1 y.2=some r:=by
 rw[jJ]at h
 exact Option.bind_eq_some_iff.1 h
theorem HJ(ae:qx P aa)(hC:qD C aa){T:TypeId}{m q u:Value}{av bv cv:AV}(hs:qh P C s a w H Φ)(hd:qK aa.nt dst=true)(hr:qi P C w H Φ s.obj av m)(fh:qi P C w H Φ s.obj bv q)(KL:qi P C w H Φ s.obj cv u)(h:Bh aa s dst T av bv cv k=some r):
  ∃s' w',k s'=some r/\(Instr.mapUpdate T m q u).run P w = .ok () w'/\dS P C s' (a.put dst undef) w':=by
 unfold Bh at h
 split at h
 case h_2=>cases h
 rename_i id p
 split at h
 case h_2=>cases h
 rename_i o ho
 replace h:=qgi h
 obtain⟨⟨σ,y⟩,hy,h⟩:=h
 simp only at h
 split at h
 case h_2=>cases h
 rename_i n i j y
 replace h:=ww h
 obtain⟨hc,h⟩:=h
 simp only[Bool.and_eq_true,decide_eq_true_eq]at hc
 obtain⟨hi,hT⟩:=hc
 replace h:=qn0 fh h
 obtain⟨k0,rfl,k1,k2,h⟩:=h
 have K:=ae.keys i hi
 have a_:=(ae.ty T _ hT).1
 obtain⟨f,an,aq,_,hch⟩:=UA hs ho hy hr
 have ue:qK C.nt dst=true:=by rw[hC.nt];exact hd
 match n,y,h,an,a_,hch,hy with
 |0,y,h,an,a_,hch,_=>
  replace h:=jN (α:=List (XK×XK)) (o:=y) h
  obtain⟨l,hl,h⟩:=h
  subst hl
  split at h
  case h_2=>cases h
  rename_i τ u0
  replace h:=jN h
  obtain⟨uu,hu,h⟩:=h
  obtain⟨e,hu⟩:=qg hu
  subst e
  subst hu
  obtain⟨_,hlen,h⟩:=MO h
  replace h:=Ux h
  obtain⟨z,hz,h⟩:=h
  obtain⟨_,cs,hv,c1,c2,f1,f2,e1,_,⟨h1,_⟩,⟨h2,_⟩⟩:=KL
  have hu:u=jS uu:=by rw[hv,e1,h1,h2];rfl
  subst hu
  obtain⟨b,e,rfl,hX⟩:=an
  replace e:=Mz e
  subst e
  obtain⟨w',hrun,hX',hm⟩:=hX.put K (a_.zL rfl) k1 k2 hlen uu
  obtain⟨aU,hs'⟩:=hch w' [b] (some (ep l k0 uu):Option (List (XK×XK))) z (hm.mono (λk hk=>by rw[hk];simp)) ⟨b,rfl,rfl,hX'⟩ aq (λk hk=>.inl hk) hz
  exact⟨_,w',h,hrun,H,aU,hs'.ah ue (av:=.dead) trivial⟩
 |1,y,h,an,a_,hch,_=>
  replace h:=jN (α:=List (XK×Int)) (o:=y) h
  obtain⟨l,hl,h⟩:=h
  subst hl
  split at h
  case h_2=>cases h
  rename_i τ u0
  replace h:=jN h
  obtain⟨uu,hu,h⟩:=h
  obtain⟨e,hu⟩:=qg hu
  subst e
  subst hu
  obtain⟨_,hlen,h⟩:=MO h
  replace h:=Ux h
  obtain⟨z,hz,h⟩:=h
  obtain⟨_,cs,hv,h1,_⟩:=KL
  have hu:u=xZ uu:=by rw[hv,h1];rfl
  subst hu
  obtain⟨b,e,rfl,hX⟩:=an
  replace e:=Mz e
  subst e
  obtain⟨w',hrun,hX',hm⟩:=hX.put K (a_.zL rfl) k1 k2 hlen uu
  obtain⟨aU,hs'⟩:=hch w' [b] (some (ep l k0 uu):Option (List (XK×Int))) z (hm.mono (λk hk=>by rw[hk];simp)) ⟨b,rfl,rfl,hX'⟩ aq (λk hk=>.inl hk) hz
  exact⟨_,w',h,hrun,H,aU,hs'.ah ue (av:=.dead) trivial⟩
 |n+2,y,h,_,_,_,_=>cases h
theorem qgC(ae:qx P aa)(hC:qD C aa){T:TypeId}{x i v:Operand}(hs:qh P C s a w H Φ)(hd:qK aa.nt dst=true){op:Op}(hop:op = .mapUpdate T x i v\/op = .insert T x i v)(h:qM aa ⟨dst,op,ty,pos,after,guard⟩ s k=some r):
  ∃s',k s'=some r/\ew P C ⟨dst,op,ty,pos,after,guard⟩ a w s':=by
 have h:(match qQ s none x,qQ s none i,qQ s none v with
  |some a,some b,some c=>Bh aa s dst T a b c k
  |_,_,_=>none)=some r:=by rcases hop with rfl|rfl<;>exact h
 split at h
 case h_2=>cases h
 rename_i av bv cv h1 h2 h3
 obtain⟨s',w',h,hrun,bE⟩:=HJ ae hC hs hd (ql hs qy h1) (ql hs qy h2) (ql hs qy h3) h
 refine⟨s',h,?_⟩
 unfold ew
 have e:(execOp a.eval ⟨dst,op,ty,pos,after,guard⟩).run P w = .ok .skip w':=by
  rcases hop with rfl|rfl<;>simp[execOp,hrun]
 rw[e]
 exact bE
theorem qoq(ae:qx P aa)(hC:qD C aa){T:TypeId}{x i:Operand}{ok:Bool}(hs:qh P C s a w H Φ)(hd:qK aa.nt dst=true)(h:qM aa ⟨dst,.lookup T x i ok,ty,pos,after,guard⟩ s k=some r):
  ∃s',k s'=some r/\fG P C ⟨dst,.lookup T x i ok,ty,pos,after,guard⟩ a w s':=by
 simp only[qM]at h
 split at h
 case h_2=>cases h
 rename_i av bv h1 h2
 exact BI ae hC hs hd (ql hs qy h1) (ql hs qy h2) h
theorem qm9(ae:qx P aa)(hC:qD C aa){T:TypeId}{z:Option Operand}(hs:qh P C s a w H Φ)(hd:qK aa.nt dst=true)(h:qM aa ⟨dst,.makeMap T z,ty,pos,after,guard⟩ s k=some r):
  ∃s',k s'=some r/\ew P C ⟨dst,.makeMap T z,ty,pos,after,guard⟩ a w s':=by
 cases z with
 |some z=>cases h
 |none=>
 have h:qi9 aa s dst T k=some r:=h
 unfold qi9 at h
 have hrun:(execOp a.eval ⟨dst,.makeMap T none,ty,pos,after,guard⟩).run P w = .ok (.value (.map (some w.heap.size))) (w.alloc (.map #[] 0)):=by simp[execOp,RowKit.run_makeMap]
 have hm:=Ko w (.map #[] 0)
 have hfr:=λd=>hs.oR (d:=d) (w':=w.alloc (.map #[] 0)) (by simp)
 split at h
 ·rename_i d i j hT _
  replace h:=ww h
  obtain⟨_,h⟩:=h
  obtain⟨aU,hs'⟩:=hs.lS ae hC (Eq.mp Nat.blt_eq hd) (n:=0) (i:=i) (j:=j) (y:=(some []:Option (List (XK×XK)))) (v:=.map (some w.heap.size)) (fp:=[w.heap.size]) hm (by simp)
   ⟨w.heap.size,rfl,rfl,.map [],World.ownsMap_made _ _ _ _,FZ.empty⟩ (hfr d)
  exact⟨_,h,pW hrun ⟨H,aU,hs'⟩⟩
 ·rename_i d i j hT _
  replace h:=ww h
  obtain⟨_,h⟩:=h
  obtain⟨aU,hs'⟩:=hs.lS ae hC (Eq.mp Nat.blt_eq hd) (n:=1) (i:=i) (j:=j) (y:=(some []:Option (List (XK×Int)))) (v:=.map (some w.heap.size)) (fp:=[w.heap.size]) hm (by simp)
   ⟨w.heap.size,rfl,rfl,.map [],World.ownsMap_made _ _ _ _,FZ.empty⟩ (hfr d)
  exact⟨_,h,pW hrun ⟨H,aU,hs'⟩⟩
 ·cases h
theorem qh.iD(hs:qh P C s a w H Φ)(x:Operand):∃H',qh P C (iD s x) a w H' Φ:=by
 unfold Go.Vi.iD
 split
 ·rename_i id _ _
  obtain⟨H',_,_,_,h⟩:=hs.freeze id
  exact⟨H',h⟩
 ·exact⟨H,hs⟩
theorem Bq(ae:qx P aa)(hC:qD C aa){T:TypeId}{x:Operand}(hs0:qh P C s a w H Φ)(hd:qK aa.nt dst=true)(h:qM aa ⟨dst,.range T x,ty,pos,after,guard⟩ s k=some r):
  ∃s',k s'=some r/\ew P C ⟨dst,.range T x,ty,pos,after,guard⟩ a w s':=by
 have h:qkJ aa (iD s x) dst T x k=some r:=h
 obtain⟨H2,hs⟩:=hs0.iD x
 generalize iD s x=s at h hs
 unfold qkJ at h
 split at h
 case h_2=>cases h
 rename_i d i j y he _
 replace h:=ww h
 obtain⟨hc,h⟩:=h
 simp only[Bool.and_eq_true,decide_eq_true_eq]at hc
 obtain⟨hi,hT⟩:=hc
 have K:=ae.keys i hi
 have a_:=(ae.ty T _ hT).1
 replace h:=jN (α:=List (XK×XK)) (o:=y) h
 obtain⟨l,hl,h⟩:=h
 subst hl
 obtain⟨_,cs,hv,b,e,_,c,hc,es,n,D,rfl,hF,hsz,hD,hrel⟩:=ql hs qy he
 have hv:a.eval x = .map (some b):=by rw[hv,e];rfl
 have hb:w.heap[b]? = some (.map es n):=hs.hok b _ hc
 have hrun:=run_range_map w T i j b es n (a_.zL rfl) hb
 have hm:=Ko w (.mapIter (some b) n #[] n)
 obtain⟨aU,hs'⟩:=hs.lS ae hC (Eq.mp Nat.blt_eq hd) (n:=3) (i:=i) (j:=j) (y:=(l,none)) (v:=.pointer (some ⟨w.heap.size,0,none⟩)) (fp:=[w.heap.size]) hm (by simp)
  ⟨w.heap.size,rfl,rfl,b,es,n,n,#[],n,D,Maps.has D,l,hc,hF,hD,hrel,heap_alloc_new w _,hF.stamped.1,by
   intro u hu
   obtain⟨z,hz⟩:=hF.reads u hu
   have:Maps.has D (WideElems.rg P i rR u).1=true:=by
    rw[hD]
    exact List.any_eq_true.2 ⟨WideElems.rg P i rR u,mem_sorted.2 (List.mem_map.2 ⟨u,hu,rfl⟩),WideAt.sameKey_self (by rw[WideElems.rg_of hz];exact K.keyed.key (WideElems.rd_key hz))⟩
   rw[this]
   simp,by
   intro kl Cx
   rw[hD]at Cx
   obtain⟨p,hp,hpk⟩:=List.any_eq_true.1 Cx
   obtain⟨u,hu,rfl⟩:=List.mem_map.1 (mem_sorted.1 hp)
   exact⟨u,hu,WideAt.sameKey_eq hpk⟩,Nat.le_refl _,Nat.le_refl _,λq kl hq=>by rw[hrel.has q kl hq];exact qjc,λu hu=>qgc hrel.nd hu,λu hu=>by cases hu⟩ (hs.oR (by simp))
 exact⟨_,h,pW (by simp[execOp,hv,hrun]) ⟨H2,aU,hs'⟩⟩
theorem k_{id i j:Nat}{y:List (XK×XK)×Option (XK×XK)}{v:Value}(hs:qh P C s a w H Φ)(ho:s.obj id=some ⟨true,.ext true 3 i j,y⟩)(hr:qi P C w H Φ s.obj (.view id []) v):∃r,v = .pointer (some ⟨r,0,none⟩)/\Ly P i w H r y:=by
 obtain⟨cs,fp,hv,an,_,_⟩:=wA hr ho (hs.os id _ ho).1 (qO _ _)
 obtain⟨r,e,_,hI⟩:=an
 exact⟨r,by rw[hv,e];rfl,hI⟩
theorem Br(hC:qD C aa){x:Operand}(hs:qh P C s a w H Φ)(hd:qK aa.nt dst=true)(h:qM aa ⟨dst,.entry x,ty,pos,after,guard⟩ s k=some r):
  ∃s',k s'=some r/\fG P C ⟨dst,.entry x,ty,pos,after,guard⟩ a w s':=by
 have h:qlg s dst x k=some r:=h
 unfold qlg at h
 split at h
 case h_2=>cases h
 rename_i id he
 split at h
 case h_2=>cases h
 rename_i i j y ho
 replace h:=jN h
 obtain⟨u,hu,h⟩:=h
 obtain⟨rr,hv,b,es,n,since,seen,c0,D,left,kv,q1,q2,q3,q4,q5,q6,q7,q8,q9,UJ,RV,Kv,RU⟩:=k_ hs ho (ql hs qy he)
 obtain⟨en,wm,rfl,rfl,La,wT,hk2⟩:=RU u hu
 refine⟨_,h,qr hs hC hd (v:=.tuple #[jS u.1,jS u.2]) ⟨_,[jS u.2],rfl,qi.nK _ _ _ _ _,_,[],rfl,qi.nK _ _ _ _ _,rfl⟩ (λw' hm=>?_)⟩
 have hb:w.heap[b]? = some (.map es c0):=hs.hok b _ q1
 have e1:w'.heap[b]? = some (.map es c0):=(hm.block b (Array.getElem?_eq_some_iff.1 hb).1 (λhh=>hh)).trans hb
 have e2:w'.heap[rr]? = some (.mapIter (some b) since (wm.push en.born) c0):=(hm.block rr (Array.getElem?_eq_some_iff.1 q5).1 (λhh=>hh)).trans q5
 have:=run_entry_at (P:=P) w' rr b since wm es c0 en e2 e1 La ((MapKept.stamped_iff es c0).1 q2.stamped).2.1
 rw[wT,hk2]at this
 simp[execOp,hv,this]
theorem HV(ae:qx P aa)(hC:qD C aa){x:Operand}{z:Bool}(hs:qh P C s a w H Φ)(hd:qK aa.nt dst=true)(h:qM aa ⟨dst,.next x z,ty,pos,after,guard⟩ s k=some r):
  ∃s',k s'=some r/\ew P C ⟨dst,.next x z,ty,pos,after,guard⟩ a w s':=by
 cases z with
 |true=>cases h
 |false=>
 have h:qng aa s dst x k=some r:=h
 unfold qng at h
 split at h
 case h_2=>cases h
 rename_i id he
 split at h
 case h_2=>cases h
 rename_i i j y ho
 replace h:=ww h
 obtain⟨hi,h⟩:=h
 have K:=ae.keys i hi
 have ue:qK C.nt dst=true:=by rw[hC.nt];exact hd
 have hr:=ql hs qy he
 obtain⟨f,an,aq,_,hch⟩:=UA hs ho (qO _ _) hr
 obtain⟨rr,e,rfl,b,es,n,since,seen,c0,D,left,kv,q1,q2,q3,q4,q5,q6,q7,q8,q9,UJ,RV,Kv,RU⟩:=an
 replace e:=Mz e
 have hb:w.heap[b]? = some (.map es n):=hs.hok b _ q1
 have hne:b≠rr:=by
  rintro rfl
  rw[hb]at q5
  cases q5
 change (let z:List (XK×XK)×Option (XK×XK):=y;Mm z.1 _ _)=some r at h
 simp only at h
 obtain⟨lf,cur⟩:=(y:List (XK×XK)×Option (XK×XK))
 rcases run_next_at (P:=P) w ty rr b since c0 seen es n q5 hb q6 q9 with⟨h0,hrun⟩|⟨en,La,w1,wW,hrun⟩
 ·have kO:lf=[]:=by
   match lf,RV with
   |[],_=>rfl
   |u::l,RV=>
    have hmem:=qjc.1 (by rw[Kv u List.mem_cons_self];rfl:(jE kv u.1).isSome=true)
    obtain⟨kl,Cx⟩:=q4.kof u.1 hmem
    have hl:=(RV u.1 kl Cx).2 (by simp)
    obtain⟨yy,Vs,rfl⟩:=q8 kl hl
    rw[q7 yy Vs,all_seen es seen h0 yy Vs]at hl
    cases hl
  subst kO
  exact⟨_,h,pW (w':=w) (v:=.tuple #[.bool false]) (by simp[execOp,e,hrun]) ⟨H,Φ,hs.ah ue (av:=.cons (.val .bool false) .nil) (v:=.tuple #[.bool false]) ⟨.bool false,[],rfl,qi.bC _ _ _ _ _,rfl⟩⟩⟩
 ·obtain⟨hem,hes⟩:=mem_left La
  obtain⟨y0,hy0⟩:=q2.reads en hem
  obtain⟨z0,hz,hzd⟩:=WideElems.rd_val hy0
  have hkey:=WideElems.rd_key hy0
  have IA:(WideElems.rg P i rR en).1=y0.1:=by rw[WideElems.rg_of hy0]
  have hleft:left y0.1=true:=by rw[<-IA,q7 en hem,hes];rfl
  have abm:Maps.has D y0.1=true:=by
   rw[q3]
   exact List.any_eq_true.2 ⟨WideElems.rg P i rR en,mem_sorted.2 (List.mem_map.2 ⟨en,hem,rfl⟩),by rw[IA];exact WideAt.sameKey_self (K.keyed.key hkey)⟩
  obtain⟨q,hq1,r_⟩:=q4.keys y0.1 abm
  have VW:en.key=jS q:=K.keyed.inj hkey r_
  have hlk:=(RV q y0.1 r_).1 hleft
  obtain⟨u,hu,rfl⟩:=List.mem_map.1 hlk
  have hval:en.val=jS u.2:=by
   have h1:=q4.val u.1 y0.1 .nil r_
   rw[Kv u hu]at h1
   rw[q3,(WideShapes.atKey_sorted (es.toList.map (WideElems.rg P i rR)) (Maps.fit_rising K.keyed q2) y0.1 (K.keyed.key hkey)).2 (WideElems.rg P i rR en) (List.mem_map.2 ⟨en,hem,rfl⟩) IA,WideElems.rg_of hy0,hzd]at h1
   unfold rR at hz
   injection hz with hz
   rw[<-hz]at h1
   injection h1
  have h':k (((s.af (AV.bB id true)).setObj id (some ⟨true,.ext true 3 i j,(ij u.1 lf,some u)⟩)).ah dst (.cons (.val .bool true) (.cons (.val nK u.1) (.cons (.val nK u.2) .nil))))=some r:=by
   exact qnh hu h
  have kC:w1.heap[rr]? = some (.mapIter (some b) since seen c0):=by rcases wW with rfl|rfl<;>exact q5
  have iY:=MapKept.heap_set (o':=.mapIter (some b) since (seen.push en.born) n) kC
  have cH:jO (· ∈[rr]) w (ChangeMaps.setBlock w1 rr (.mapIter (some b) since (seen.push en.born) n)):=by
   rcases wW with rfl|rfl<;>exact⟨rfl,rfl,rfl,by simp[ChangeMaps.setBlock],λk _ hk=>iY.2 k (λe1=>hk (by simp[e1]))⟩
  obtain⟨aU,hs'⟩:=hch _ [rr] (ij u.1 lf,some u) (ij u.1 lf,some u) cH ⟨rr,by rw[e],rfl,b,es,n,since,seen.push en.born,n,D,(λx=>left x && !x.sameKey y0.1),kv,q1,q2,q3,q4,iY.1,q6,λyy Vs=>by
    show(left (WideElems.rg P i rR yy).1 && !(WideElems.rg P i rR yy).1.sameKey y0.1)=_
    rw[q7 yy Vs,<-IA,same_iff_born K.keyed q2 Vs hem,contains_push]
    cases seen.contains yy.born<;>cases(yy.born==en.born)<;>rfl,λkl Cx=>q8 kl (by simp at Cx;exact Cx.1),UJ,UJ,λq' kl uL=>by
    rw[Bool.and_eq_true,RV q' kl uL,List.mem_map,List.mem_map]
    constructor
    ·rintro⟨⟨y1,hy1,rfl⟩,hs2⟩
     refine⟨y1,Bb.2 ⟨hy1,?_⟩,rfl⟩
     intro e2
     rw[e2]at uL
     rw[r_]at uL
     cases uL
     rw[WideAt.sameKey_self (K.keyed.key hkey)]at hs2
     cases hs2
    ·rintro⟨y1,hy1,rfl⟩
     obtain⟨h1,h2⟩:=Bb.1 hy1
     refine⟨⟨y1,h1,rfl⟩,?_⟩
     rw[Maps.sameKey_ne (qno K uL r_ h2)]
     rfl,λy1 hy1=>Kv y1 (Bb.1 hy1).1,λy1 hy1=>by
    cases hy1
    exact⟨en,seen,rfl,rfl,hem,VW,hval⟩⟩ (by simp) (λk hk=>.inl hk) ((qiD (.ext true 3 i j) _ _ _).trans (dif_pos rfl))
  refine⟨_,h',pW (v:=.tuple #[.bool true,jS u.1,jS u.2]) (by rw[VW,hval]at hrun;simp[execOp,e,hrun]) ⟨H,aU,hs'.ah ue ⟨.bool true,[jS u.1,jS u.2],rfl,qi.bC _ _ _ _ _,_,[jS u.2],rfl,qi.nK _ _ _ _ _,_,[],rfl,qi.nK _ _ _ _ _,rfl⟩⟩⟩
theorem qmh{o:Oper}{f:Nat}{args:Array Value}{s':St}(hrun:(execOp a.eval o).run P w = .ok (.enter f args) w)(h:Calls P f args w λe w''=>∃v,e = .returned v/\dS P C s' (a.put o.dst v) w''):ew P C o a w s':=by
 unfold ew
 rw[hrun]
 exact h
theorem qhc(ae:qx P aa)(hC:qD C aa){T:TypeId}{x:Operand}(hs:qh P C s a w H Φ)(hd:qK aa.nt dst=true)(h:qM aa ⟨dst,.makeInterface T x,ty,pos,after,guard⟩ s k=some r):
  ∃s',k s'=some r/\ew P C ⟨dst,.makeInterface T x,ty,pos,after,guard⟩ a w s':=by
 replace h:zM aa s dst T x k=some r:=h
 unfold zM at h
 have hrun:∀q,aa.sx=some q->(T=q.T\/T=q.et)->(execOp a.eval ⟨dst,.makeInterface T x,ty,pos,after,guard⟩).run P w = .ok (.value (.iface T (a.eval x))) w:=by
  intro q hq hT
  have hc:P.concrete T=true:=by
   rcases hT with rfl|rfl
   ·exact(ae.JU q hq).wrap.1
   ·exact(ae.JU q hq).wrap.2
  simp[execOp,run_makeInterface w T (a.eval x) hc]
 split at h
 ·rename_i q τ y hq he
  replace h:=ww h
  obtain⟨hT,h⟩:=h
  obtain rfl:=Nat.eq_of_beq_eq_true hT
  replace h:=jN (α:=XK×XK) h
  obtain⟨y,hy,h⟩:=h
  obtain⟨e,hy⟩:=qg hy
  subst e
  subst hy
  obtain⟨_,cs,hv,an⟩:=ql hs qy he
  obtain⟨rfl,_⟩:=qjX (y:=y) an
  have hv:a.eval x=uD y:=hv
  refine⟨_,h,pW (hrun q hq (.inr rfl)) ⟨H,Φ,hs.ah (by rw[hC.nt];exact hd) ⟨rfl,[.iface q.et (uD y)],by rw[hv];rfl,rfl,rfl⟩⟩⟩
 ·rename_i d q id hq he
  split at h
  case h_2=>cases h
  rename_i o ho
  replace h:=ww h
  obtain⟨hc,h⟩:=h
  simp only[Bool.and_eq_true,Bool.not_eq_true']at hc
  obtain⟨hrow,hT⟩:=hc
  obtain rfl:=Nat.eq_of_beq_eq_true hT
  replace h:=jN (α:=List (XK×XK)) h
  obtain⟨l,hl,h⟩:=h
  obtain⟨row,τ,y⟩:=o
  simp only at hrow hl
  subst hrow
  obtain⟨e,hl⟩:=qg hl
  subst e
  subst hl
  obtain⟨o',y',b,off,q1,q2,q3,q4,hv⟩:=ql hs qy he
  rw[ho]at q1
  cases q1
  obtain⟨rfl,rfl⟩:=jT.fN _ (show jT w (.list true q.et FQ) (Φ id).b 0 [] b off from q4) (kV w (.list true q.et FQ) (Φ id).b 0)
  obtain⟨⟨_,aq,blk,tt,aC,hh,⟨ax,xs,fp2,e1,e2,how,hch⟩,bl⟩,NH⟩:=hs.os id _ ho
  obtain⟨rfl,rfl⟩:=qfW hch
  have hblk:blk = #[ax]:=by rw[<-Array.toArray_toList (xs:=blk),e1]
  subst hblk
  have NV:(Φ id).fp=(Φ id).b::ax.ownBlock.toList:=by rw[bl,e2,List.append_nil]
  have hs1:=hs.remove id
  have bF:∀j o',((s.kill id).setObj id none).obj j=some o'->s.obj j=some o'/\j≠id:=by
   intro j o' hj
   rw[St.ak]at hj
   split at hj
   ·cases hj
   ·rename_i hne;exact⟨hj,λe=>hne e.symm⟩
  obtain⟨aU,hs'⟩:=hs1.lS ae hC (Eq.mp Nat.blt_eq hd) (n:=4) (i:=q.T) (j:=q.et) (y:=(some l:Option (List (XK×XK)))) (v:=.iface q.T (.pointer (some ⟨(Φ id).b,0,none⟩))) (fp:=(Φ id).fp) (jO.refl _ _) aq
   ⟨(Φ id).b,tt,ax,rfl,NV,hh,how⟩ (λk hk=>⟨(NH k hk).1,(NH k hk).2.1,(NH k hk).2.2,λj o' _ hj=>hs.aN id j _ o' (λe=>(bF j o' hj).2 e.symm) ho (bF j o' hj).1 k hk⟩)
  exact⟨_,h,pW (by rw[hrun q hq (.inl rfl),hv]) ⟨H,aU,hs'⟩⟩
 ·cases h
theorem qfR(ae:qx P aa)(hC:qD C aa){x:Operand}{xT T:TypeId}{z:Bool}(hs:qh P C s a w H Φ)(hd:qK aa.nt dst=true)(h:qM aa ⟨dst,.typeAssert x xT T z,ty,pos,after,guard⟩ s k=some r):
  ∃s',k s'=some r/\fG P C ⟨dst,.typeAssert x xT T z,ty,pos,after,guard⟩ a w s':=by
 cases z with
 |true=>cases h
 |false=>
 replace h:qlp aa s dst x T k=some r:=h
 unfold qlp at h
 split at h
 case h_2=>cases h
 rename_i q i j y hq he
 replace h:=ww h
 obtain⟨hc,h⟩:=h
 rw[Bool.and_eq_true]at hc
 obtain rfl:=Nat.eq_of_beq_eq_true hc.1
 obtain rfl:=Nat.eq_of_beq_eq_true hc.2
 obtain⟨_,cs,hv,e,_⟩:=ql hs qy he
 have hv:a.eval x = .iface q.et (uD (y:XK×XK)):=by rw[hv,e];rfl
 exact⟨_,h,qr hs hC hd (v:=uD (y:XK×XK)) (qi.FQ _ _ _ _ _) (λw' _=>by simp[execOp,hv,(ae.JU q hq).kS])⟩
theorem qf7{av:AV}{f:XQ->(id:Nat)->(p:List qu)->List (XK×XK)->Option R}(h:Tx aa s av f=some r):
  ∃q id p o l,aa.sx=some q/\av = .view id p/\s.obj id=some o/\qU o.τ o.x p=some ⟨.ext true 4 q.T q.et,(some l:Option (List (XK×XK)))⟩/\f q id p l=some r:=by
 unfold Tx at h
 split at h
 case h_2=>cases h
 rename_i q id p hq
 split at h
 case h_2=>cases h
 rename_i o ho
 cases hc:o.row&&p.isEmpty with
 |true=>rw[hc]at h;cases h
 |false=>
 rw[hc,_root_.cond_false]at h
 replace h:=qgi h
 obtain⟨⟨σ,y⟩,hy,h⟩:=h
 simp only at h
 replace h:=jN (α:=Option (List (XK×XK))) h
 obtain⟨y2,hy2,h⟩:=h
 obtain⟨e,hy2⟩:=qg hy2
 subst e
 subst hy2
 replace h:=jN h
 obtain⟨l,hl,h⟩:=h
 subst hl
 exact⟨q,id,p,o,l,hq,rfl,ho,hy,h⟩
theorem qop(ae:qx P aa)(hC:qD C aa){x:Operand}{name:String}{c:Call}(hc:c.callee = .invoke x name)(hs:qh P C s a w H Φ)(hd:qK aa.nt dst=true)(h:qM aa ⟨dst,.call c,ty,pos,after,guard⟩ s k=some r):
  ∃s',k s'=some r/\ew P C ⟨dst,.call c,ty,pos,after,guard⟩ a w s':=by
 obtain⟨cal,ops,ats⟩:=c
 simp only at hc
 subst hc
 have hname:name = "Len" :=by
  refine Classical.byContradiction λhname=>?_
  simp only[qM]at h
  split at h
  all_goals first
   |(rename_i heq;injection heq with _ e;exact hname e)
   |(rename_i heq;injection heq;done)
   |(rename_i heq _;injection heq;done)
   |(cases h;done)
   |contradiction
 subst hname
 replace h:(bif ops.toList.isEmpty then qkL aa s dst x k else none)=some r:=h
 replace h:=ww h
 obtain⟨abr,h⟩:=h
 unfold qkL at h
 split at h
 case h_2=>cases h
 rename_i av he
 replace h:=qf7 h
 obtain⟨q,id,p,o,l,hq,rfl,ho,hy,h⟩:=h
 obtain⟨f,an,_,_,_⟩:=UA hs ho hy (ql hs qy he)
 have hQ:ic q.T q.et w l [a.eval x] f:=an
 obtain⟨g,args,hrun,aR⟩:=(ae.JU q hq).len w l _ f hQ
 have has:ops = #[]:=by
  have:ops.toList=[]:=List.isEmpty_iff.1 abr
  rw[<-Array.toArray_toList (xs:=ops),this]
 subst has
 refine⟨_,h,?_⟩
 have e:(execOp a.eval ⟨dst,.call ⟨.invoke x "Len",#[],ats⟩,ty,pos,after,guard⟩).run P w = .ok (.enter g args) w:=by
  simp[execOp,resolve,invoke,hrun]
 refine qmh e (aR.mono ?_)
 rintro ev w' ⟨rfl,hm⟩
 exact⟨_,rfl,H,Φ,(hs.grow hm).ah (by rw[hC.nt];exact hd) (qi.bc _ _ _ _ _ _)⟩
theorem qm3(ae:qx P aa)(hC:qD C aa){f:Nat}{l:List AV}{vs:List Value}(hs:qh P C s a w H Φ)(hd:qK aa.nt dst=true)(hrel:dl (qi P C w H Φ s.obj) l vs)(h:qiU aa s dst f l k=some r):
  jD P f/\∃s',k s'=some r/\Calls P f vs.toArray w λe w''=>∃v,e = .returned v/\dS P C s' (a.put dst v) w'':=by
 unfold qiU at h
 have ue:qK C.nt dst=true:=by rw[hC.nt];exact hd
 split at h
 ·rename_i q0 av zw
  match vs,hrel with
  |[v],hrel=>
  replace h:=ww h
  obtain⟨hf,h⟩:=h
  obtain rfl:=Nat.eq_of_beq_eq_true hf
  replace h:=qf7 h
  obtain⟨q,id,p,o,l,hq,rfl,ho,hy,h⟩:=h
  rw[zw]at hq
  cases hq
  replace h:=jN h
  obtain⟨⟨x,l'⟩,NG,h⟩:=h
  simp only[YG,ho]at h
  replace h:=Ux h
  obtain⟨z,hz,h⟩:=h
  obtain⟨f,an,aq,_,hch⟩:=UA hs ho hy hrel.1
  have hQ:ic q0.T q0.et w l [v] f:=an
  refine⟨(ae.JU q0 zw).eO.1,_,h,((ae.JU q0 zw).pop w l v f x l' hQ aq NG).mono ?_⟩
  rintro e w' ⟨rfl,f',hm,hQ',aO,hf'⟩
  obtain⟨aU,hs'⟩:=hch w' f' (some l':Option (List (XK×XK))) z hm hQ' aO hf' hz
  exact⟨_,rfl,H,aU,hs'.ah ue ⟨rfl,[.iface q0.et (uD x)],rfl,rfl,rfl⟩⟩
  |[],hrel=>exact hrel.elim
  |_::_::_,hrel=>exact hrel.2.elim
 ·rename_i q0 av bv zw
  match vs,hrel with
  |[v,u],hrel=>
  replace h:=ww h
  obtain⟨hf,h⟩:=h
  obtain rfl:=Nat.eq_of_beq_eq_true hf
  replace h:=qf7 h
  obtain⟨q,id,p,o,l,hq,rfl,ho,hy,h⟩:=h
  rw[zw]at hq
  cases hq
  split at h
  case h_2=>cases h
  rename_i τ y
  replace h:=jN (α:=XK×XK) h
  obtain⟨y2,hy2,h⟩:=h
  obtain⟨e,hy2⟩:=qg hy2
  subst e
  subst hy2
  replace h:=jN h
  obtain⟨l',Cm,h⟩:=h
  simp only[YG,ho]at h
  replace h:=Ux h
  obtain⟨z,hz,h⟩:=h
  obtain⟨f,an,aq,_,hch⟩:=UA hs ho hy hrel.1
  have hQ:ic q0.T q0.et w l [v] f:=an
  obtain⟨_,cs,hu,e,_⟩:=hrel.2.1
  have hu:u = .iface q0.et (uD y2):=by rw[hu,e];rfl
  subst hu
  refine⟨(ae.JU q0 zw).eO.2,_,h,((ae.JU q0 zw).push w l v f y2 l' hQ aq Cm).mono ?_⟩
  rintro e w' ⟨rfl,f',hm,hQ',aO,hf'⟩
  obtain⟨aU,hs'⟩:=hch w' f' (some l':Option (List (XK×XK))) z hm hQ' aO hf' hz
  exact⟨_,rfl,H,aU,hs'.ah ue rfl⟩
  |[],hrel=>exact hrel.elim
  |[_],hrel=>exact hrel.2.elim
  |_::_::_::_,hrel=>exact hrel.2.2.elim
 ·cases h
theorem qlG(ae:qx P aa)(hC:qD C aa){q:XS}(hq:aa.wh=some q){f:Nat}{l:List AV}{vs:List Value}(hs:qh P C s a w H Φ)(hd:qK aa.nt dst=true)(hrel:dl (qi P C w H Φ s.obj) l vs)(h:qg7 aa s dst q f l k=some r):
  jD P f/\∃s',k s'=some r/\Calls P f vs.toArray w λe w''=>∃v,e = .returned v/\dS P C s' (a.put dst v) w'':=by
 obtain⟨eC,hsort⟩:=ae.Ti q hq
 unfold qg7 at h
 split at h
 case h_2=>cases h
 rename_i a0 g τ x
 replace h:=ww h
 obtain⟨hf,h⟩:=h
 rw[Bool.and_eq_true]at hf
 obtain⟨hf,hg⟩:=hf
 obtain rfl:=Nat.eq_of_beq_eq_true hf
 obtain rfl:=Nat.eq_of_beq_eq_true hg
 replace h:=jN h
 obtain⟨x2,hx2,h⟩:=h
 match vs,hrel with
 |[v,u],hrel=>
  obtain⟨kC,⟨us,cs,hu,fh,KL⟩,_⟩:=hrel
  have zu:us = #[]:=by have:Value.tuple us = .tuple #[]:=fh;injection this
  obtain⟨u1,u2,e1,⟨_,b,o,blk,e2,hb,an⟩,e3⟩:=KL
  have hu2:u2=[]:=by
   have:Value.tuple u2.toArray = .tuple #[]:=e3
   injection this with this
   exact List.toArray_inj this
  have hcs:cs = #[.pointer (some ⟨b,o,none⟩)]:=by
   rw[hu2,e2]at e1
   injection e1
  subst hu zu hcs
  obtain⟨e,hx2⟩:=qg hx2
  subst e
  subst hx2
  obtain⟨s',hk,aR⟩:=qku ae hC (X:=λQ=>Calls P q.f #[v,.func (.func q.g) #[] #[.pointer (some ⟨b,o,none⟩)]] w Q) (λh hm=>h.mono hm) hs hd (l:=[a0]) (vs:=[v]) ⟨kC,trivial⟩ (λd y hy H2 ai hle hok ha hn hf=>by
   obtain⟨v',vs',φ,ag,e4,rfl,e5,bh,e6⟩:=ha
   obtain⟨rfl,rfl⟩:v=v'/\vs'=[]:=by
    injection e4 with e7 e8
    exact⟨e7,e8.symm⟩
   obtain⟨_,rfl⟩:[]=([]:List Value)/\ag=[]:=⟨rfl,e6.2⟩
   have bl:qc [φ]=φ.fp:=by simp[qc]
   rw[bl]at hn hf
   obtain⟨l2,bn,rfl⟩:=Option.map_eq_some_iff.1 hy
   subst e5
   refine(hsort x2 d.1 l2 bn w H2 b o blk φ hok (hle _ _ hb) (qm.mono q.τ hle (by simp) an) bh hn hf).mono ?_
   rintro e w' ⟨rfl,hm,ho⟩
   refine⟨[],H2,[φ],[],rfl,by rw[bl];exact hm,FH.le_refl _,hok.mod hm (λc hc=>(hf c hc).1),λ_ _ h=>.inl h,⟨rfl,rfl⟩,⟨_,[],φ,[],rfl,rfl,rfl,ho,rfl,rfl⟩,by rw[show([]:List qH)++[φ]=[φ]from rfl,bl];exact hn,λc hc=>?_⟩
   rw[show([]:List qH)++[φ]=[φ]from rfl,bl]at hc
   rw[bl]
   exact⟨(hf c hc).1,.inl hc,Nat.lt_of_lt_of_le (hf c hc).2 hm.size⟩) h
  exact⟨eC,s',hk,aR⟩
 |[],hrel=>exact hrel.elim
 |[_],hrel=>exact hrel.2.elim
 |_::_::_::_,hrel=>exact hrel.2.2.elim
theorem qne(ae:qx P aa)(hC:qD C aa){c:Call}(hc:c.callee = .builtin .append){tid:Nat}(hX:TN aa c=some tid)(hs:qh P C s a w H Φ)(hd:qK aa.nt dst=true)(h:qM aa ⟨dst,.call c,ty,pos,after,guard⟩ s k=some r):
  ∃s',k s'=some r/\ew P C ⟨dst,.call c,ty,pos,after,guard⟩ a w s':=by
 simp only[qM,hc,hX]at h
 unfold qmB at h
 split at h
 case h_2=>cases h
 rename_i x y hxy
 unfold TN at hX
 split at hX
 case h_2=>cases hX
 rename_i T T' Ll
 split at hX
 case h_2=>cases hX
 rename_i t0 j0 hT
 cases hq:Nat.beq T T' with
 |false=>rw[hq]at hX;cases hX
 |true=>
 rw[hq,cond_true]at hX
 cases hX
 obtain rfl:=Nat.eq_of_beq_eq_true hq
 have e2:c=⟨.builtin .append,#[x,y],#[T,T]⟩:=by
  obtain⟨c1,c2,c3⟩:=c
  simp only at hc hxy Ll
  rw[hc,<-Array.toArray_toList (xs:=c2),hxy,<-Array.toArray_toList (xs:=c3),Ll]
 subst e2
 split at h
 case h_2=>cases h
 rename_i av bv gq gp
 have hr:=ql hs qy gq
 have fh:=ql hs qy gp
 have hu:=(ae.ty T _ hT).1.LH (by decide)
 unfold qmA at h
 split at h
 case h_2=>cases h
 rename_i d e id p he
 obtain⟨hte,oO⟩:=ae.ty tid _ he
 split at h
 case h_2=>cases h
 rename_i o ho
 replace h:=ww h
 obtain⟨Ld,h⟩:=h
 simp only[Bool.and_eq_true,Bool.not_eq_true']at Ld
 obtain⟨hrow,hp,hsz⟩:=Ld
 have hsz:=Nat.eq_of_beq_eq_true hsz
 replace h:=qgi h
 obtain⟨⟨σ,yy⟩,hy,h⟩:=h
 simp only at h
 split at h
 case h_2=>cases h
 rename_i i j y0
 replace h:=ww h
 obtain⟨hi,h⟩:=h
 obtain rfl:=Nat.eq_of_beq_eq_true hi
 replace h:=jN (α:=Nat) h
 obtain⟨n,hn,h⟩:=h
 obtain⟨l2,h,hel⟩:=Zm hs fh oO h
 obtain⟨h2,h3,h⟩:=MO h
 replace h:=Ux h
 obtain⟨z,hz,h⟩:=h
 obtain⟨f,an,aq,hH,Cz,hch⟩:=qhV (F:=AV.lJ id) hs ho hy hr (.inr ⟨rfl,hrow,hp⟩)
 have hn:y0=(some n:Option Nat):=hn
 subst hn
 have hR:Xy i w n [a.eval x] f:=an
 obtain⟨ax,xs,e1,rfl,hown⟩:=hR
 replace e1:=Mz e1
 obtain⟨news,NC,n_⟩:=FY.raw hel
 have hown':w.ownsRow 0 i e.size ax n xs:=by rw[hsz];exact hown
 obtain⟨v',w',hrun,wR,_,hg,hblk⟩:=qdx hu hte ty hown' NC (qd.all (λ_ _ _ hh=>qm.one e hh) n_) (by omega)
 rw[hsz]at wR
 have hm:jO (· ∈ax.ownBlock.toList) w w':=⟨hg.os,hg.tape,hg.output,hg.size,λk hk hM=>hg.block k hk (λe=>hM (by rw[<-e];simp))⟩
 obtain⟨v0,e3,nW⟩:=qY.shape (n:=5) an
 have Nz:(a.eval x).oneCell'=true:=by rw[Mz e3];exact nW
 obtain⟨aU,hs1,hfree⟩:=hch w' [] (none:Option Nat) z hm ⟨rfl,_,rfl,Nz⟩ List.nodup_nil (by simp) hz
 obtain⟨jj,hs2⟩:=hs1.lS (n:=5) (i:=i) (j:=j) (y:=(some (n+l2.length):Option Nat)) (v:=v') (fp:=v'.ownBlock.toList) ae hC (Eq.mp Nat.blt_eq hd) (jO.refl _ _) (by cases v'.ownBlock<;>simp) ⟨v',_,rfl,rfl,wR⟩ (by
  intro b hb
  rcases hblk with hb'|⟨g,hb',h5,h6⟩
  ·rw[hb']at hb
   obtain⟨p1,p2,p3⟩:=(hs.os id o ho).2 b (Cz b hb)
   exact⟨p1,p2,Nat.lt_of_lt_of_le p3 hm.size,λj' o' _ hj=>hfree j' o' hj b (.inl hb) (by simp)⟩
  ·rw[hb']at hb
   have hb:b=g:=by simpa using hb
   subst hb
   refine⟨?_,.inr (Nat.le_trans hs.mod.size h5),h6,λj' o' _ hj dY=>?_⟩
   ·cases hq:H b with
    |none=>rfl
    |some c=>exact absurd (hs.hok.lt hq) (by omega)
   ·exact hfree j' o' hj b (.inr h5) (by simp) dY)
 refine⟨_,h,pW (w':=w') (v:=v') ?_ ⟨H,jj,hs2⟩⟩
 rw[<-e1]at hrun
 simp[execOp,resolve,invoke,builtin,hrun]
end
end Go.Vi
namespace Go.Vi
def RF:(τ:Ty)->τ.den->List Value
 |.int k,x=>[.int k x]
 |.bool,x=>[.bool x]
 |.pair a b,x=>RF a x.1++RF b x.2
 |.str t,x=>RF t x
 |.arr _ e,l=>(l.map λx=>RF e x).flatten
 |_,_=>[]
def fk.Ca:fk->Bool
 |.v τ=>τ.az
 |_=>false
def TP(p:qS):Bool:=p.ps.all j3.reads&&p.rs.all fk.Ca&&Nat.blt p.rs.length 1000
def Re:(rs:List fk)->bH rs->List Value
 |[],_=>[]
 |.v τ::rs,d=>j7 τ (RF τ d.1)::Re rs d.2
 |.own _ _::rs,d=>undef::Re rs d.2
 |.iu _::rs,d=>undef::Re rs d.2
 |.ir _::rs,d=>undef::Re rs d.2
 |.sure _ _ _::rs,d=>undef::Re rs d.2
section
variable {P:Program} {C:cM} {aa:jB} {R:Type} {r:R} {s:St} {a:Act} {w:World} {H:FH} {Φ:Nat->qH} {dst:Option Nat} {ty:TypeId} {pos:String} {after:Array Edge} {guard:Option (Nat×Bool)} {k:St->Option R}
theorem qd.flat{α:Type}{Q:α->List Value->List Nat->Prop}{f:α->List Value}(h:∀x c fp,Q x c fp->c=f x):∀{l:List α} {xs fp},qd Q l xs fp->xs=(l.map f).flatten
 |[],_,_,hh=>by simp[hh.1]
 |x::l,_,_,⟨c,xs',g,aC,e1,_,h2,h3⟩=>by rw[e1,h _ _ _ h2,qd.flat h h3];simp
theorem qm.flat:(τ:Ty)->τ.az=true->∀{w H x cs fp},qm P τ w H x cs fp->cs=RF τ x
 |.int _,_,_,_,_,_,_,h=>h.1
 |.bool,_,_,_,_,_,_,h=>h.1
 |.list _ _ _,hf,_,_,_,_,_,_=>by simp[Ty.az]at hf
 |.pair a b,hf,_,_,_,_,_,h=>by
  simp only[Ty.az,Bool.and_eq_true]at hf
  obtain⟨c1,c2,f1,f2,e,_,h1,h2⟩:=h
  rw[e,qm.flat a hf.1 h1,qm.flat b hf.2 h2];rfl
 |.str t,hf,_,_,_,_,_,h=>qm.flat t (by simpa[Ty.az]using hf) h
 |.ptr _,hf,_,_,_,_,_,_=>by simp[Ty.az]at hf
 |.op _,hf,_,_,_,_,_,_=>by simp[Ty.az]at hf
 |.arr _ e,hf,_,_,_,_,_,h=>qd.flat (λ_ _ _ hh=>qm.flat e (by simpa[Ty.az]using hf) hh) h.2
 |.fn _ _,hf,_,_,_,_,_,_=>by simp[Ty.az]at hf
 |.bQ _ _ _,hf,_,_,_,_,_,_=>by simp[Ty.az]at hf
 |.ext _ _ _ _,hf,_,_,_,_,_,_=>by simp[Ty.az]at hf
theorem qm.mJ:(τ:Ty)->τ.az=true->∀{w H x cs fp},qm P τ w H x cs fp->∀w' H',qm P τ w' H' x cs []
 |τ,hf,w,H,x,cs,fp,h=>by
  intro w' H'
  have bl:=qm.dg τ (Ty.fM τ hf) h
  subst bl
  exact qm.closed τ (Ty.bg τ hf) (qm.mono τ (FH.le_refl H) (by simp) h)
theorem qiO:∀{rs:List fk} {d:bH rs} {us:List Value} {aJ:List qH},rs.all fk.Ca=true->gv P w H rs d us aJ->us=Re rs d/\
  ∀{w' H' aU os} (s:St) (n:Nat),(jM s n rs d).1=s/\(jM s n rs d).2.aY=true/\qi P C w' H' aU os (jM s n rs d).2 (.tuple us.toArray)
 |[],_,us,aJ,_,h=>by
  obtain⟨rfl,rfl⟩:=h
  exact⟨rfl,λs n=>⟨rfl,rfl,rfl⟩⟩
 |.v τ::rs,d,us,aJ,hf,h=>by
  simp only[List.all_cons,Bool.and_eq_true]at hf
  obtain⟨v,vs',φ,ag,rfl,rfl,hfz,_,⟨cs,hv,an⟩,h⟩:=h
  obtain⟨h1,h2⟩:=qiO hf.2 h
  have hcs:=qm.flat τ hf.1 an
  refine⟨by rw[hv,hcs,h1];rfl,λs n=>?_⟩
  obtain⟨k1,k2,k3⟩:=h2 s (n+1)
  exact⟨k1,k2,v,vs',rfl,⟨hfz,cs,hv,qm.mJ τ hf.1 an _ _⟩,k3⟩
 |.own _ _::rs,_,_,_,hf,_=>by simp[fk.Ca]at hf
 |.iu _::rs,_,_,_,hf,_=>by simp[fk.Ca]at hf
 |.ir _::rs,_,_,_,hf,_=>by simp[fk.Ca]at hf
 |.sure _ _ _::rs,_,_,_,hf,_=>by simp[fk.Ca]at hf
theorem qgn{w':World}:∀{ps:List j3} {d:aI ps} {vs:List Value} {ai:List qH},ps.all j3.reads=true->jU P w H ps d vs ai->jU P w' H ps d vs ai/\qc ai=[]
 |[],_,_,_,_,h=>⟨h,by rw[h.2];rfl⟩
 |.v τ::ps,d,vs,ai,hp,h=>by
  obtain⟨v,vs',φ,ag,e1,e2,e3,e4,e5,h⟩:=h
  obtain⟨h1,h2⟩:=qgn (by simpa[j3.reads]using hp) h
  exact⟨⟨v,vs',φ,ag,e1,e2,e3,e4,uk.mono (FH.le_refl H) e5,h1⟩,by rw[e2];simpa[qc,e4]using h2⟩
 |.r τ::ps,d,vs,ai,hp,h=>by
  obtain⟨v,vs',φ,ag,e1,e2,e3,e4,e5,h⟩:=h
  obtain⟨h1,h2⟩:=qgn (by simpa[j3.reads]using hp) h
  exact⟨⟨v,vs',φ,ag,e1,e2,e3,e4,xL.mono (FH.le_refl H) e5,h1⟩,by rw[e2];simpa[qc,e4]using h2⟩
 |.c _::_,_,_,_,hp,_=>by simp[j3.reads]at hp
 |.m _::_,_,_,_,hp,_=>by simp[j3.reads]at hp
 |.mr _ _::_,_,_,_,hp,_=>by simp[j3.reads]at hp
 |.t _ _::_,_,_,_,hp,_=>by simp[j3.reads]at hp
 |.gm _::_,_,_,_,hp,_=>by simp[j3.reads]at hp
 |.cm _ _::_,_,_,_,hp,_=>by simp[j3.reads]at hp
theorem qga:∀{ps:List j3} (l:List AV) (md:aV ps) (s:St),ps.all j3.reads=true->qC s ps l md=s
 |[],l,_,_,_=>by cases l<;>rfl
 |.v _::ps,[],_,_,_=>rfl
 |.v _::ps,_::l,md,s,hp=>qga (ps:=ps) l md s (by simpa[j3.reads]using hp)
 |.r _::ps,[],_,_,_=>rfl
 |.c _::ps,[],_,_,_=>rfl
 |.r _::ps,_::l,md,s,hp=>qga (ps:=ps) l md s (by simpa[j3.reads]using hp)
 |.c _::_,_::_,_,_,hp=>by simp[j3.reads]at hp
 |.m _::_,_,_,_,hp=>by simp[j3.reads]at hp
 |.mr _ _::_,_,_,_,hp=>by simp[j3.reads]at hp
 |.t _ _::_,_,_,_,hp=>by simp[j3.reads]at hp
 |.gm _::_,_,_,_,hp=>by simp[j3.reads]at hp
 |.cm _ _::_,_,_,_,hp=>by simp[j3.reads]at hp
theorem qje:∀{rs:List fk},rs.all fk.Ca=true->rs.all fk.closed=true
 |[],_=>rfl
 |.v τ::rs,h=>by
  simp only[List.all_cons,Bool.and_eq_true]at h ⊢
  exact⟨h.1,qje h.2⟩
 |.own _ _::rs,h=>by simp[fk.Ca]at h
 |.iu _::rs,h=>by simp[fk.Ca]at h
 |.ir _::rs,h=>by simp[fk.Ca]at h
 |.sure _ _ _::rs,h=>by simp[fk.Ca]at h
theorem qeC:∀{ps:List j3},ps.all j3.reads=true->ps.all j3.closed=true
 |[],_=>rfl
 |.v _::ps,h=>by simpa[j3.closed]using qeC (ps:=ps) (by simpa[j3.reads]using h)
 |.r _::ps,h=>by simpa[j3.closed]using qeC (ps:=ps) (by simpa[j3.reads]using h)
 |.c _::_,h=>by simp[j3.reads]at h
 |.m _::_,hp=>by simp[j3.reads]at hp
 |.mr _ _::_,hp=>by simp[j3.reads]at hp
 |.t _ _::_,hp=>by simp[j3.reads]at hp
 |.gm _::_,hp=>by simp[j3.reads]at hp
 |.cm _ _::_,hp=>by simp[j3.reads]at hp
theorem qmx(ae:qx P aa)(hC:qD C aa){f:Nat}{p:qS}(hp:lk aa.b_ f=some p)(ND:TP p=true){l:List AV}{vs:List Value}(hs:qh P C s a w H Φ)(hd:qK aa.nt dst=true)(hrel:dl (qi P C w H Φ s.obj) l vs)
  (h:He aa s dst p l k=some r):∃s',k s'=some r/\∃v,dS P C s' (a.put dst v) w/\∀w',jO jA w w'->Calls P f vs.toArray w' λe w''=>e = .returned v/\jO jA w w'':=by
 obtain⟨_,dD⟩:=ae.b_ f p hp
 simp only[TP,Bool.and_eq_true]at ND
 obtain⟨⟨hps,hrv⟩,_⟩:=ND
 unfold He at h
 cases hq:apart (qI p.ps l) (qG p.ps l)&&Nat.blt p.rs.length 1000 with
 |false=>rw[hq]at h;cases h
 |true=>
 rw[hq,cond_true]at h
 obtain⟨Hf,m1,m2,m3,m4,m5⟩:=qh.aQ (qG p.ps l) hs
 obtain⟨d,h,ai,hargs,hmr⟩:=xO ae hs m1 m3 hrel h
 rw[qj]at h
 replace h:=Option.bind_eq_some_iff.1 h
 obtain⟨y,hy,h⟩:=h
 rw[qje hrv,qeC hps,Bool.and_self,cond_true]at h
 dsimp only at h
 rw[qga l _ _ hps]at h
 have Lg:∀w',jO jA w w'->Calls P f vs.toArray w' λe w''=>(∃us aJ H',e = .returned (oD us)/\gv P w'' H' p.rs y.1 us aJ)/\jO jA w w'':=by
  intro w' hm
  obtain⟨ha,bl⟩:=qgn (w':=w') hps hargs
  have cD:cI Hf w':=m4.hok.mod hm (λ_ hb=>hb.elim)
  refine(dD d y hy w' Hf vs ai cD ha (by rw[bl];simp) (by rw[bl];simp)).mono ?_
  rintro e w'' ⟨us,H',ag,aJ,he,sg,_,_,_,hres,_⟩
  exact⟨⟨us,aJ,H',he,hres⟩,hm.trans (qkY bl sg)⟩
 obtain⟨_,w0,_,⟨⟨us,aJ,H',_,hres⟩,_⟩,_⟩:=Lg w (jO.refl _ _) []
 obtain⟨zu,aaR⟩:=qiO (C:=C) hrv hres
 obtain⟨k1,k2,k3⟩:=aaR (w':=w) (H':=H) (aU:=Φ) (os:=s.obj) (s.af AV.aH) (1000*(dst.getD 0+1))
 refine⟨_,h,oD us,?_,?_⟩
 ·rw[k1]
  exact⟨H,Φ,(hs.af AV.aH).ah (by rw[hC.nt];exact hd) (qnY k2 k3)⟩
 ·intro w' hm
  refine(Lg w' hm).mono ?_
  rintro e w'' ⟨⟨us2,aci,H2,he,hres2⟩,sg⟩
  refine⟨?_,sg⟩
  rw[he,(qiO (C:=C) hrv hres2).1,zu]
theorem wy{f:Nat}(eC:jD P f)(args:Array Value)(w:World):(callFunc f args).run P w = .ok (.enter f args) w:=by
 obtain⟨fn,hf,hn,hb⟩:=eC
 have hb':¬fn.body=none:=by intro h;rw[h]at hb;cases hb
 have hn':¬fn.name = "runtime.NumGoroutine" :=by simpa using hn
 simp[callFunc,hf,hn',hb']
theorem Bf{c:Call}{vC:Operand}(hc:c.callee = .value vC){f:Nat}{vs us:Array Value}(hv:a.eval vC = .func (.func f) vs us)(eC:jD P f)(w:World):
  (execOp a.eval ⟨dst,.call c,ty,pos,after,guard⟩).run P w = .ok (.enter f (vs++c.args.map a.eval++us)) w:=by
 simp[execOp,resolve,hc,hv,Deferred.ofValue,invoke,wy eC]
theorem Gr{o:Oper}{f:Nat}{args:Array Value}{s':St}(hrun:(execOp a.eval o).run P w = .ok (.enter f args) w)(h:Calls P f args w λe w''=>∃v,e = .returned v/\dS P C s' (a.put o.dst v) w''):ew P C o a w s':=by
 unfold ew
 rw[hrun]
 exact h
theorem ql7{β:Type}(f:Operand->β)(c:Array Operand):(c.map f).toList=c.toList.map f:=by simp
theorem Gf{s:St}{oT:List AV}:∀{l:List Operand},dl (λav x=>qi P C w H Φ s.obj av (a.eval x)) oT l->dl (qi P C w H Φ s.obj) oT (l.map a.eval)
 |l,h=>by
  induction l generalizing oT with
  |nil=>cases oT<;>first|trivial|exact h.elim
  |cons x l ih=>cases oT<;>first|exact h.elim|exact⟨h.1,ih h.2⟩
theorem qgU(hC:qD C aa){f:Nat}{tid:Nat}{e:Ty}{g:List e.den×Unit->Option (Unit×(List e.den×Unit))}{tail:List Value}(dD:∀d y,g d=some y->∀(w:World) (H:FH) (vs:List Value) (ai:List qH),cI H w->jU P w H [.mr tid e] d vs ai->
   (qc ai).Nodup->(∀b∈qc ai,H b=none/\b<w.heap.size)->
   Calls P f (vs++tail).toArray w λev w'=>∃us H' ag aJ,ev = .returned (oD us)/\jO (· ∈qc ai) w w'/\H.le H'/\cI H' w'/\(∀b c,H' b=some c->H b=some c\/b∈qc ai\/w.heap.size<=b)/\
    gv P w' H' [] y.1 us aJ/\jR P w' H' [.mr tid e] y.2 vs ag/\(qc (aJ++ag)).Nodup/\∀b∈qc (aJ++ag),H' b=none/\(b∈qc ai\/w.heap.size<=b)/\b<w'.heap.size)
  {id:Nat} {path:List qu} {v:Value} (hs:qh P C s a w H Φ) (hd:qK aa.nt dst=true) (hr:qi P C w H Φ s.obj (.view id path) v)
  (h:Zk s dst tid e g id path k=some r):∃s',k s'=some r/\Calls P f (v::tail).toArray w λe w''=>∃v,e = .returned v/\dS P C s' (a.put dst v) w'':=by
 unfold Zk at h
 split at h
 case h_2=>cases h
 rename_i o ho
 cases hfl:e.az && !(o.row&&path.isEmpty)with
 |false=>rw[hfl]at h;cases h
 |true=>
 rw[hfl,cond_true,jJ]at h
 rw[Bool.and_eq_true,Bool.not_eq_true']at hfl
 obtain⟨hfl,gW⟩:=hfl
 replace h:=Option.bind_eq_some_iff.1 h
 obtain⟨⟨σ,y⟩,hy,h⟩:=h
 rw[qj]at h
 replace h:=Option.bind_eq_some_iff.1 h
 obtain⟨l,hl,h⟩:=h
 obtain⟨e1,hl⟩:=qg hl
 simp only at e1
 subst e1
 subst hl
 rw[qj]at h
 replace h:=Option.bind_eq_some_iff.1 h
 obtain⟨⟨u0,l',u1⟩,hg,h⟩:=h
 rw[sO]at h
 replace h:=Option.bind_eq_some_iff.1 h
 obtain⟨z,hz,h⟩:=h
 simp only at hz h hg
 obtain⟨o',y',q1,q2,q3⟩:=hr
 rw[ho]at q1
 cases q1
 rw[gW]at q3
 rw[hy]at q2
 cases q2
 obtain⟨b,off,blk,t,bP,hblk,hv⟩:=q3
 have hok:=(hs.os id o ho).1
 have bF:=(hs.os id o ho).2
 obtain⟨b',o',aX,t',pre',c,post',f1,f,f2,e1,e2,e3,e4,e5,e6,hl',e7⟩:=hok.h_ hy ⟨w,_,_,bP⟩ gW
 obtain⟨rfl,rfl⟩:=jV.fN bP (hl' w (λ_ _=>rfl))
 rw[hblk]at e1
 cases e1
 have e6':=e6
 obtain⟨ax,xs,aC,ec,ef,_,_⟩:=e6'
 have hvh:v=ax:=by
  rw[hv]
  have:ct blk off (Ty.list true tid e).size=c:=by rw[<-e3];exact qZ e2 (qm.length _ e6)
  rw[this,ec];rfl
 subst hvh
 have aq:=hok.2.1
 rw[e4]at aq
 have jb:f.Nodup:=(List.nodup_append.1 (List.nodup_append.1 aq).1).2.1
 have hin:∀k∈f,k∈(Φ id).fp:=λk hk=>by rw[e4];simp[hk]
 have uc:∀k∈f1,k∈(Φ id).fp:=λk hk=>by rw[e4];simp[hk]
 have kP:∀k∈f2,k∈(Φ id).fp:=λk hk=>by rw[e4];simp[hk]
 have kD:∀k∈f1,k∉f:=λk h1 h2=>(List.nodup_append.1 (List.nodup_append.1 aq).1).2.2 k h1 k h2 rfl
 have oM:∀k∈f2,k∉f:=λk h1 h2=>(List.nodup_append.1 aq).2.2 k (by simp[h2]) k h1 rfl
 have aa3:(Ty.list true tid e).aD=true:=Gl _ hok.1 hy
 subst ec
 have hc:=dD (l,()) (u0,l',u1) hg w H [v] [⟨0,v,f⟩] hs.hok ⟨v,[],_,[],rfl,rfl,rfl,qR.eX aa3 jb e6,rfl,rfl⟩ (by simpa[qc]using jb) (by
  intro k hk
  have hk':k∈f:=by simpa[qc]using hk
  exact⟨(bF k (hin k hk')).1,(bF k (hin k hk')).2.2⟩)
 refine⟨_,h,hc.mono ?_⟩
 rintro ev w'' ⟨us,H',ag,aJ,he,hm,hle,cD,hnew,hres,dL,dJ,hall⟩
 obtain⟨rfl,rfl⟩:=hres
 obtain⟨v2,oq,eE,iL,ea,eb,ev2,wS,uO⟩:=dL
 cases ea
 subst eb
 obtain⟨_,rfl⟩:=uO
 have hmf:∀k,(k∈qc [(⟨0,v,f⟩:qH)])↔k∈f:=λk=>by simp[qc]
 have hm':jO (· ∈f) w w'':=hm.mono (λk hk=>(hmf k).1 hk)
 have NW:∀k∈eE.fp,(k∈f\/w.heap.size<=k)/\k<w''.heap.size:=by
  intro k hk
  obtain⟨_,p2,p3⟩:=hall k (by simp[qc,hk])
  exact⟨p2.imp_left (hmf k).1,p3⟩
 have dH:(Ty.list true tid e).isClosed=true:=by simpa[Ty.isClosed]using Ty.bg e hfl
 have gA:qm P (.list true tid e) w'' H l' [v] eE.fp:=by
  have:=(qR.closed (H':=H) dH wS).dz
  rw[<-ev2]at this
  exact this
 have NI:cI H w'':=hs.hok.mod hm' (λk hk=>(bF k (hin k hk)).1)
 have kG:b∉f:=kD b e5
 have IP:b<w.heap.size:=(Array.getElem?_eq_some_iff.1 hblk).1
 have CH:w''.heap[b]? = some (.cells (pre'++[v]++post').toArray t (0,0)):=by
  rw[hm'.block b IP kG,hblk]
  rw[<-e2]
 have Cs:(f1++eE.fp++f2).Nodup:=by
  have k1:=List.nodup_append.1 aq
  have k2:=List.nodup_append.1 k1.1
  have hφ:eE.fp.Nodup:=wS.2.1
  rw[List.nodup_append,List.nodup_append]
  refine⟨⟨k2.1,hφ,?_⟩,k1.2.1,?_⟩
  ·rintro x hx _ hx2 rfl
   rcases(NW x hx2).1 with h1|h1
   ·exact kD x hx h1
   ·have:=(bF x (uc x hx)).2.2;omega
  ·rintro x hx _ hx2 rfl
   rcases List.mem_append.1 hx with h1|h1
   ·exact k1.2.2 x (by simp[h1]) x hx2 rfl
   ·rcases(NW x h1).1 with h1|h1
    ·exact oM x hx2 h1
    ·have:=(bF x (kP x hx2)).2.2;omega
 have Cn:=e7 w'' [v] eE.fp (.list true tid e) l' z gA hz CH (by
  intro k hk _
  rcases List.mem_append.1 hk with h1|h1
  ·exact hm'.block k (bF k (uc k h1)).2.2 (kD k h1)
  ·exact hm'.block k (bF k (kP k h1)).2.2 (oM k h1)) Cs
 have VP:jO C.M0 C.w0 w'':=hs.mod.bA hm' (λk hk=>(bF k (hin k hk)).2.1)
 have hch:=hs.change ho z ⟨(Φ id).b,(Φ id).ax,f1++eE.fp++f2⟩ rfl rfl (FH.le_refl _) NI hs.hnew VP hm'.size (by
  intro j o2 hj cu k hk
  refine⟨hm'.block k ((hs.os j o2 cu).2 k hk).2.2 (λNM=>hs.aN j id o2 o hj cu ho k hk (hin k NM)),((hs.os j o2 cu).2 k hk).1⟩) Cn (by
  intro k hk
  have hk':k∈f1++eE.fp++f2:=hk
  have old:∀k,k∈(Φ id).fp->H k=none/\(C.M0 k\/C.w0.heap.size<=k)/\k<w''.heap.size/\∀j o2,j≠id->s.obj j=some o2->k∉(Φ j).fp:=λk hk=>by
   obtain⟨p1,p2,p3⟩:=bF k hk
   exact⟨p1,p2,Nat.lt_of_lt_of_le p3 hm'.size,λj o2 hj cu=>hs.aN id j o o2 (λe=>hj e.symm) ho cu k hk⟩
  rcases List.mem_append.1 hk' with h1|h1
  ·rcases List.mem_append.1 h1 with h1|h1
   ·exact old k (uc k h1)
   ·obtain⟨p1,p2⟩:=NW k h1
    rcases p1 with p1|p1
    ·exact old k (hin k p1)
    ·refine⟨?_,.inr (Nat.le_trans hs.mod.size p1),p2,λj o2 _ cu hkj=>?_⟩
     ·cases hq:H k with
      |none=>rfl
      |some c=>exact absurd (hs.hok.lt hq) (by omega)
     ·have:=((hs.os j o2 cu).2 k hkj).2.2
      omega
  ·exact old k (kP k h1))
 exact⟨_,he,H,_,hch.ah (by rw[hC.nt];exact hd) rfl⟩
theorem qfV{s:St}{id id':Nat}{q q':List qu}(h:Ru s id q=some (id',q')):id=id'/\q=q':=by
 unfold Ru at h
 split at h
 ·rename_i o _
  cases Cg:o.row&&q.isEmpty with
  |true=>rw[Cg]at h;cases h
  |false=>rw[Cg]at h;cases h;exact⟨rfl,rfl⟩
 ·cases h
theorem qmr{s:St}{f g id:Nat}{q:List qu}{z:Nat×List qu}(h:(bif Nat.beq g f then Ru s id q else none)=some z):g=f/\Ru s id q=some z:=by
 cases hb:Nat.beq g f with
 |true=>rw[hb]at h;exact⟨Nat.eq_of_beq_eq_true hb,h⟩
 |false=>rw[hb]at h;cases h
theorem qmt{s:St}{tid:Nat}{e:Ty}{x y:AV}{l:List AV}{id:Nat}{q:List qu}(h:Ge s [.mr tid e] x y l=some (id,q)):l=[.view id q]:=by
 unfold Ge at h
 split at h
 ·obtain⟨rfl,rfl⟩:=qfV h;rfl
 ·rename_i hps;cases hps
 ·cases h
theorem qms{s:St}{tid f:Nat}{e:Ty}{x y:AV}{l:List AV}{id:Nat}{q:List qu}(h:Ge s [.mr tid e,.c f] x y l=some (id,q)):l=[.view id q,.fn f .nil .nil]:=by
 unfold Ge at h
 split at h
 ·rename_i hps;cases hps
 ·rename_i hps
  cases hps
  replace h:=qmr h
  obtain⟨rfl,h⟩:=h
  replace h:=qfV h
  obtain⟨rfl,rfl⟩:=h
  rfl
 ·cases h
theorem qmw(ae:qx P aa)(hC:qD C aa){f:Nat}{p:qS}(hp:lk aa.b_ f=some p){id:Nat}{path:List qu}{l:List AV}{vs:List Value}(hs:qh P C s a w H Φ)(hd:qK aa.nt dst=true)(hr:dl (qi P C w H Φ s.obj) l vs){x y:AV}(hda:Ge s p.ps x y l=some (id,path))
  (h:qhz s dst p id path k=some r):∃s',k s'=some r/\Calls P f vs.toArray w λe w''=>∃v,e = .returned v/\dS P C s' (a.put dst v) w'':=by
 obtain⟨_,dD⟩:=ae.b_ f p hp
 unfold qhz at h
 split at h
 ·rename_i tid e g
  obtain rfl:=qmt hda
  match vs,hr with
  |[v],hr=>
   exact qgU (aa:=aa) (tail:=[]) hC (λd y hy w H vs ai h1 h2 h3 h4=>by rw[List.append_nil];exact dD d y hy w H vs ai h1 h2 h3 h4) hs hd hr.1 h
  |[],hr=>exact hr.elim
  |_::_::_,hr=>exact hr.2.elim
 ·rename_i tid e f2 g
  obtain rfl:=qms hda
  match vs,hr with
  |[v,u],hr=>
   obtain⟨fs,us,hu,kC,fh⟩:=hr.2.1
   have CB:fs = #[]:=by have:Value.tuple fs = .tuple #[]:=kC;injection this
   have zu:us = #[]:=by have:Value.tuple us = .tuple #[]:=fh;injection this
   subst CB
   subst zu
   subst hu
   exact qgU (aa:=aa) (tail:=[.func (.func f2) #[] #[]]) hC (λd y hy w H vs ai h1 h2 h3 h4=>by
    obtain⟨v0,vs',φ,ag,rfl,rfl,k1,k2,rfl,rfl⟩:=h2
    have bl:∀φ:qH,qc [φ,qA]=qc [φ]:=λφ=>by simp[qc,qA]
    refine(dD (d.1,((),())) y hy w H [v0,.func (.func f2) #[] #[]] [φ,qA] h1 ⟨v0,_,φ,_,rfl,rfl,k1,k2,_,[],qA,[],rfl,rfl,trivial,rfl,rfl,rfl,rfl⟩ (by rw[bl];exact h3) (by rw[bl];exact h4)).mono ?_
    rintro ev w' ⟨us,H',iL,aJ,e1,e2,e3,e4,e5,e6,e7,e8,e9⟩
    obtain⟨v1,vs1,SE,bZ,q1,rfl,q3,q4,v2,oq,kT,LA,q5,rfl,q7,q8,q9⟩:=e7
    cases q1
    cases q5
    subst q9
    rw[bl]at e2 e5 e9
    have NV:qc (aJ++[SE,kT])=qc (aJ++[SE]):=by simp[qc,q7]
    rw[NV]at e8 e9
    exact⟨us,H',[SE],aJ,e1,e2,e3,e4,e5,e6,⟨v0,[],SE,[],rfl,rfl,q3,q4,rfl,rfl⟩,e8,e9⟩) hs hd hr.1 h
  |[],hr=>exact hr.elim
  |[_],hr=>exact hr.2.elim
  |_::_::_::_,hr=>exact hr.2.2.elim
 ·cases h
theorem ql6(ae:qx P aa)(hC:qD C aa){f:Nat}{mp:xl}(hp:lk aa.Sa f=some mp){l:List AV}{vs:List Value}(hs:qh P C s a w H Φ)(hd:qK aa.nt dst=true)(hrel:dl (qi P C w H Φ s.obj) l vs)
  (h:qi8 aa s dst mp l k=some r):∃s',k s'=some r/\Calls P f vs.toArray w λe w''=>∃v,e = .returned v/\dS P C s' (a.put dst v) w'':=by
 unfold qi8 at h
 cases h
theorem qlj{s:St}{ps:List j3}{x y:AV}{l:List AV}{z:Nat×List qu}(h:Ge s ps x y l=some z):x = .nil/\y = .nil:=by
 unfold Ge at h
 split at h
 ·exact⟨rfl,rfl⟩
 ·exact⟨rfl,rfl⟩
 ·cases h
theorem qjU{s:St}{ps:List j3}(h:ps.all j3.reads=true)(x y:AV)(l:List AV):Ge s ps x y l=none:=by
 unfold Ge
 split
 ·simp[j3.reads]at h
 ·simp[j3.reads]at h
 ·rfl
theorem qlZ(ae:qx P aa)(hC:qD C aa){c:Call}{vC:Operand}(hc:c.callee = .value vC)(hs:qh P C s a w H Φ)(hd:qK aa.nt dst=true){i f n:Nat}{l:List AV}(he:qi P C w H Φ s.obj (.cv i f n) (a.eval vC))(lm:dl (qi P C w H Φ s.obj) l (c.args.toList.map a.eval))
  (h:qg8 aa s dst i f n l k=some r):∃s',k s'=some r/\ew P C ⟨dst,.call c,ty,pos,after,guard⟩ a w s':=by
 unfold qg8 at h
 cases h
theorem qj3{x y:Operand}(h:TT x y=true):x=y:=by
 unfold TT at h
 split at h
 ·rw[Nat.eq_of_beq_eq_true h]
 ·rw[Nat.eq_of_beq_eq_true h]
 ·rename_i b1 b2
  have:b1=b2:=by simpa using h
  rw[this]
 ·simp only[Bool.and_eq_true,beq_iff_eq]at h
  rw[h.1,h.2]
 ·cases h
theorem qiG:∀{l r:List Operand},TX l r=true->l=r
 |[],[],_=>rfl
 |a::l,b::r,h=>by
  simp only[TX,Bool.and_eq_true]at h
  rw[qj3 h.1,qiG h.2]
 |[],_::_,h=>by cases h
 |_::_,[],h=>by cases h
theorem qor(ae:qx P aa)(hC:qD C aa){c:Call}{vC:Operand}(hc:c.callee = .value vC)(hs:qh P C s a w H Φ)(hd:qK aa.nt dst=true)(h:Yy aa s dst vC c k=some r):
  ∃s',k s'=some r/\ew P C ⟨dst,.call c,ty,pos,after,guard⟩ a w s':=by
 unfold Yy at h
 split at h
 ·rename_i il kE
  obtain⟨d,rfl,kE⟩:=Option.bind_eq_some_iff.1 kE
  unfold Vo at h
  cases KH:TT vC il.vC&&TX c.args.toList il.ops with
  |false=>rw[KH]at h;cases h
  |true=>
  rw[KH,cond_true]at h
  rw[Bool.and_eq_true]at KH
  have e1:=qj3 KH.1
  have e2:=qiG KH.2
  split at h
  case h_2=>cases h
  rename_i d0 hd0
  rw[qj]at h
  obtain⟨y,hy,h⟩:=Option.bind_eq_some_iff.1 h
  obtain⟨f,vs,us,hv,eC,aR⟩:=ae.inl d il kE d0 y hy C a w hC.gQ (by rw[hC.nt];exact Eq.mp Nat.blt_eq hd) ⟨H,Φ,qlJ hd0 hs⟩
  have e:vs++(il.ops.map a.eval).toArray++us=vs++c.args.map a.eval++us:=by
   rw[<-e2]
   apply Array.toList_inj.1
   simp
  rw[e]at aR
  exact⟨_,h,Gr (Bf hc (by rw[e1];exact hv) eC w) aR⟩
 rename_i kO
 clear kO
 have hfz:∀i t,(λi:Nat=>(c.argTypes[i]?).bind (lk aa.ty)) i=some t->t.ay=true:=by
  intro i t ht
  obtain⟨T,_,ht⟩:=Option.bind_eq_some_iff.1 ht
  exact ae.fz T t ht
 split at h
 ·rename_i f first aG l gq gp
  split at h
  case h_2=>
   split at h
   case h_2=>
    split at h
    case h_2=>
     split at h
     case h_2=>
      split at h
      case h_2=>cases h
      obtain⟨vs,us,hv,kC,fh⟩:=ql hs qy gq
      have lm:=Gf (jY hs hfz gp)
      have hvs:vs = #[]:=by have:Value.tuple vs = .tuple #[]:=kC;injection this
      have zu:us = #[]:=by have:Value.tuple us = .tuple #[]:=fh;injection this
      subst hvs
      subst zu
      have hh:jD P f/\∃s',k s'=some r/\Calls P f (c.args.toList.map a.eval).toArray w λe w''=>∃v,e = .returned v/\dS P C s' (a.put dst v) w'':=by
       split at h
       ·exact qlG ae hC ‹_› hs hd lm h
       ·exact qm3 ae hC hs hd lm h
      obtain⟨eC,s',h,aR⟩:=hh
      have e:(c.args.toList.map a.eval).toArray = #[]++c.args.map a.eval ++ #[]:=by
       apply Array.toList_inj.1
       simp
      rw[e]at aR
      exact⟨s',h,Gr (Bf hc hv eC w) aR⟩
     rename_i mp hp
     cases ht:first.aY&&aG.aY with
     |false=>rw[ht]at h;cases h
     |true=>
     rw[ht,cond_true]at h
     rw[Bool.and_eq_true]at ht
     obtain⟨vs,us,hv,kC,fh⟩:=ql hs qy gq
     have l1:=sN (vs:=vs.toList) ht.1 (by simpa using kC)
     have l2:=sN (vs:=us.toList) ht.2 (by simpa using fh)
     have lm:=Gf (jY hs hfz gp)
     obtain⟨s',h,aR⟩:=ql6 ae hC hp hs hd (dl.append (dl.append l1 lm) l2) h
     have e:(vs.toList++c.args.toList.map a.eval++us.toList).toArray=vs++c.args.map a.eval++us:=by
      apply Array.toList_inj.1;simp
     rw[e]at aR
     exact⟨s',h,Gr (Bf hc hv (ae.Sa f mp hp).1 w) aR⟩
    rename_i kp hp
    cases ht:first.aY&&aG.aY with
    |false=>rw[ht]at h;cases h
    |true=>
    rw[ht,cond_true]at h
    rw[Bool.and_eq_true]at ht
    obtain⟨vs,us,hv,kC,fh⟩:=ql hs qy gq
    have l1:=sN (vs:=vs.toList) ht.1 (by simpa using kC)
    have l2:=sN (vs:=us.toList) ht.2 (by simpa using fh)
    have lm:=Gf (jY hs hfz gp)
    obtain⟨s',h,aR⟩:=qk5 ae hC hp hs hd (dl.append (dl.append l1 lm) l2) h
    have e:(vs.toList++c.args.toList.map a.eval++us.toList).toArray=vs++c.args.map a.eval++us:=by
     apply Array.toList_inj.1;simp
    rw[e]at aR
    exact⟨s',h,Gr (Bf hc hv (ae.keeps f kp hp).1 w) aR⟩
   rename_i m hp
   cases ht:first.aY&&aG.aY with
   |false=>rw[ht]at h;cases h
   |true=>
   rw[ht,cond_true]at h
   rw[Bool.and_eq_true]at ht
   obtain⟨vs,us,hv,kC,fh⟩:=ql hs qy gq
   have l1:=sN (vs:=vs.toList) ht.1 (by simpa using kC)
   have l2:=sN (vs:=us.toList) ht.2 (by simpa using fh)
   have lm:=Gf (jY hs hfz gp)
   obtain⟨s',h,aR⟩:=qoK ae hC hp hs hd (dl.append (dl.append l1 lm) l2) h
   have e:(vs.toList++c.args.toList.map a.eval++us.toList).toArray=vs++c.args.map a.eval++us:=by
    apply Array.toList_inj.1;simp
   rw[e]at aR
   exact⟨s',h,Gr (Bf hc hv (ae.iz f m hp).1 w) aR⟩
  rename_i p hp
  split at h
  ·rename_i id path hda
   obtain⟨rfl,rfl⟩:=qlj hda
   obtain⟨vs,us,hv,kC,fh⟩:=ql hs qy gq
   have lm:=Gf (jY hs hfz gp)
   have hvs:vs = #[]:=by have:Value.tuple vs = .tuple #[]:=kC;injection this
   have zu:us = #[]:=by have:Value.tuple us = .tuple #[]:=fh;injection this
   subst hvs
   subst zu
   obtain⟨s',h,aR⟩:=qmw ae hC hp hs hd lm hda h
   have e:(c.args.toList.map a.eval).toArray = #[]++c.args.map a.eval ++ #[]:=by
    apply Array.toList_inj.1
    simp
   rw[e]at aR
   exact⟨s',h,Gr (Bf hc hv (ae.b_ f p hp).1 w) aR⟩
  rename_i hda
  cases ht:first.aY&&aG.aY with
  |false=>rw[ht]at h;cases h
  |true=>
  rw[ht,cond_true]at h
  rw[Bool.and_eq_true]at ht
  obtain⟨vs,us,hv,kC,fh⟩:=ql hs qy gq
  have l1:=sN (vs:=vs.toList) ht.1 (by simpa using kC)
  have l2:=sN (vs:=us.toList) ht.2 (by simpa using fh)
  have lm:=Gf (jY hs hfz gp)
  have e:(vs.toList++c.args.toList.map a.eval++us.toList).toArray=vs++c.args.map a.eval++us:=by
   apply Array.toList_inj.1;simp
  have plain:He aa s dst p (first.list++l++aG.list) k=some r->∃s',k s'=some r/\ew P C ⟨dst,.call c,ty,pos,after,guard⟩ a w s':=λh=>by
   obtain⟨s',h,aR⟩:=DD ae hC hp hs hd (dl.append (dl.append l1 lm) l2) h
   rw[e]at aR
   exact⟨s',h,Gr (Bf hc hv (ae.b_ f p hp).1 w) aR⟩
  split at h
  ·rename_i q hq
   rcases qoL ae hC hq hs hd (dl.append (dl.append l1 lm) l2) h with⟨s',h,aR⟩|h
   ·rw[e]at aR
    exact⟨s',h,Gr (Bf hc hv (ae.b_ f p hp).1 w) aR⟩
   ·exact plain h
  ·exact plain h
 ·rename_i i f n l gq gp
  exact qlZ ae hC hc hs hd (ql hs qy gq) (Gf (jY hs hfz gp)) h
 ·rename_i b r2 g xav gq gp
  cases hrf:r2.az with
  |false=>rw[hrf]at h;cases h
  |true=>
  rw[hrf,cond_true]at h
  obtain⟨abo,cs,hv,an⟩:=ql hs qy gq
  have lm:=Gf (jY hs hfz gp)
  obtain⟨_,f,vs,us,rfl,eC,hg⟩:=an
  obtain⟨Hf,m1,m2,m3,m4,m5⟩:=qh.aQ xav.aK hs
  match wW:c.args.toList.map a.eval,lm with
  |[v],lm=>
   obtain⟨hbz,x,h,cx,hvx,hrx⟩:=ME hs m1 (FH.le_refl Hf) m3 (.inl lm.1) h
   rw[qj]at h
   replace h:=Option.bind_eq_some_iff.1 h
   obtain⟨y,hy,h⟩:=h
   have aR:=hg x y hy Hf w cx m1 m4.hok hrx
   have e:vs ++ #[j7 b cx]++us=vs++c.args.map a.eval++us:=by
    congr 2
    apply Array.toList_inj.1
    rw[ql7,wW,hvx]
   rw[e]at aR
   refine⟨_,h,Gr (Bf hc (by rw[hv];rfl) eC w) (aR.mono ?_)⟩
   rintro e w'' ⟨cy,he,hm,hry⟩
   exact⟨_,he,H,Φ,(hs.grow hm).ah (by rw[hC.nt];exact hd) ⟨Ty.fM r2 hrf,cy,rfl,qm.mJ r2 hrf hry _ _⟩⟩
  |[],lm=>exact lm.elim
  |_::_::_,lm=>exact lm.2.elim
 ·rename_i b b2 r2 g xav yav gq gp
  cases hrf:r2.az with
  |false=>rw[hrf]at h;cases h
  |true=>
  rw[hrf,cond_true]at h
  obtain⟨abo,cs,hv,an⟩:=ql hs qy gq
  have lm:=Gf (jY hs hfz gp)
  obtain⟨_,f,vs,us,rfl,eC,hg⟩:=an
  obtain⟨Hf,m1,m2,m3,m4,m5⟩:=qh.aQ (xav.aK++yav.aK) hs
  match wW:c.args.toList.map a.eval,lm with
  |[v,u],lm=>
   obtain⟨hbz,x,h,cx,hvx,hrx⟩:=ME hs m1 (FH.le_refl Hf) (λid aF=>m3 id (by simp[aF])) (.inl lm.1) h
   obtain⟨acu,z,h,cz,hvz,hrz⟩:=ME hs m1 (FH.le_refl Hf) (λid aF=>m3 id (by simp[aF])) (.inl lm.2.1) h
   rw[qj]at h
   replace h:=Option.bind_eq_some_iff.1 h
   obtain⟨y,hy,h⟩:=h
   have aR:=hg x z y hy Hf w cx cz m1 m4.hok hrx hrz
   have e:vs ++ #[j7 b cx,j7 b2 cz]++us=vs++c.args.map a.eval++us:=by
    congr 2
    apply Array.toList_inj.1
    rw[ql7,wW,hvx,hvz]
   rw[e]at aR
   refine⟨_,h,Gr (Bf hc (by rw[hv];rfl) eC w) (aR.mono ?_)⟩
   rintro e w'' ⟨cy,he,hm,hry⟩
   exact⟨_,he,H,Φ,(hs.grow hm).ah (by rw[hC.nt];exact hd) ⟨Ty.fM r2 hrf,cy,rfl,qm.mJ r2 hrf hry _ _⟩⟩
  |[],lm=>exact lm.elim
  |[_],lm=>exact lm.2.elim
  |_::_::_::_,lm=>exact lm.2.2.elim
 ·cases h
theorem qh.fO(hs:qh P C s a w H Φ)(hC:qD C aa)(x:Operand):∃aU,qh P C (s.fO x) a w H aU:=by
 unfold St.fO
 split
 ·rename_i t
  split
  ·rename_i id tid e l hg
   split
   ·rename_i o ho
    cases hq:o.row&&Nat.blt id 4000000 with
    |false=>exact⟨Φ,hs⟩
    |true=>
     rw[Bool.and_eq_true]at hq
     rw[cond_true]
     have aF:id<4000000:=Eq.mp Nat.blt_eq hq.2
     obtain⟨_,h1⟩:=hs.Dt hC (hs.ts t _ hg) ho hq.1 aF
     refine⟨_,h1.weaken (λ_ _ h=>h) ?_⟩
     intro u av hu
     rw[St.lj]at hu
     split at hu
     ·rename_i e1
      subst e1
      cases hu
      refine⟨⟨true,.list true tid e,l⟩,⟨.list true tid e,l⟩,?_,qO _ _,?_⟩
      ·rw[St.Ic,St.newObj,St.ak,if_pos rfl]
      ·simp only[List.isEmpty_nil,Bool.and_self,qt]
     ·exact h1.ts u av hu
   ·exact⟨Φ,hs⟩
  ·exact⟨Φ,hs⟩
 ·exact⟨Φ,hs⟩
theorem ew.map{o:Oper}{s' s'':St}(hm:∀a w,dS P C s' a w->dS P C s'' a w)(h:ew P C o a w s'):ew P C o a w s'':=by
 unfold ew at h ⊢
 split at h
 ·exact hm _ _ h
 ·exact hm _ _ h
 ·exact h.mono (λe w'' ⟨v,he,hs⟩=>⟨v,he,hm _ _ hs⟩)
 ·exact h.elim
theorem qou(ae:qx P aa)(hC:qD C aa){c:Call}(hc:c.callee = .builtin .append)(hs:qh P C s a w H Φ)(hd:qK aa.nt dst=true)(h:qM aa ⟨dst,.call c,ty,pos,after,guard⟩ s k=some r):
  ∃s',k s'=some r/\ew P C ⟨dst,.call c,ty,pos,after,guard⟩ a w s':=by
 cases hX:TN aa c with
 |some tid=>exact qne ae hC hc hX hs hd h
 |none=>
 obtain⟨s',h,hg⟩:=qnf ae hC hc hX hs hd h
 rcases h with h|h
 case inr=>exact⟨s',h,hg⟩
 unfold qf6 at h
 split at h
 ·exact⟨s',h,hg⟩
 ·split at h
  ·exact⟨s',h,hg⟩
  ·refine⟨_,h,hg.map λa w hs=>?_⟩
   obtain⟨H,Φ,hs⟩:=hs
   obtain⟨aU,hs⟩:=hs.fO hC _
   exact⟨H,aU,hs⟩
theorem qh.dP(hC:qD C aa):∀(l:List Operand) {s:St} {Φ:Nat->qH},qh P C s a w H Φ->∃aU,qh P C (dP s l) a w H aU
 |[],_,Φ,hs=>⟨Φ,hs⟩
 |x::r,_,_,hs=>by
  obtain⟨aU,h⟩:=hs.fO hC x
  exact qh.dP hC r h
theorem Bu(ae:qx P aa)(hC:qD C aa){c:Call}{vC:Operand}(hc:c.callee = .value vC)(hs:qh P C s a w H Φ)(hd:qK aa.nt dst=true)(h:qM aa ⟨dst,.call c,ty,pos,after,guard⟩ s k=some r):
  ∃s',k s'=some r/\ew P C ⟨dst,.call c,ty,pos,after,guard⟩ a w s':=by
 simp only[qM,hc]at h
 obtain⟨aU,hs'⟩:=hs.dP hC c.args.toList
 exact qor ae hC hc hs' hd h
theorem Bv(ae:qx P aa)(hC:qD C aa){c:Call}{f:Nat}(hc:c.callee = .value (.func f)){p:qS}(hp:lk aa.b_ f=some p)(hni:dst.bind (lk aa.inl)=none)(hna:lk aa.vI f=none)(ND:TP p=true)(hs:qh P C s a w H Φ)(hd:qK aa.nt dst=true)
  (h:qM aa ⟨dst,.call c,ty,pos,after,guard⟩ s k=some r):∃s',k s'=some r/\Quiet P C ⟨dst,.call c,ty,pos,after,guard⟩ a w s':=by
 simp only[qM,hc]at h
 obtain⟨aU,hs⟩:=hs.dP hC c.args.toList
 simp only[Yy,hni,qQ]at h
 have hfz:∀i t,(λi:Nat=>(c.argTypes[i]?).bind (lk aa.ty)) i=some t->t.ay=true:=by
  intro i t ht
  obtain⟨T,_,ht⟩:=Option.bind_eq_some_iff.1 ht
  exact ae.fz T t ht
 split at h
 ·rename_i f' first aG l gq gp
  cases gq
  have hrd:p.ps.all j3.reads=true:=by
   unfold TP at ND
   rw[Bool.and_eq_true,Bool.and_eq_true]at ND
   exact ND.1.1
  rw[hp]at h
  simp only[qjU hrd,AV.aY,Bool.and_self,cond_true,AV.list,List.nil_append,List.append_nil,hna]at h
  have lm:=Gf (jY hs hfz gp)
  obtain⟨s',h,v,bE,aR⟩:=qmx ae hC hp ND hs hd lm h
  refine⟨s',h,v,λw' hm=>?_,bE⟩
  unfold Oper.quietAt
  rw[Bf hc (f:=f) (vs:=#[]) (us:=#[]) rfl (ae.b_ f p hp).1 w']
  refine⟨rfl,?_⟩
  have e:(c.args.toList.map a.eval).toArray = #[]++c.args.map a.eval ++ #[]:=by
   apply Array.toList_inj.1;simp
  rw[<-e]
  exact aR w' hm
 ·rename_i gq _;cases gq
 ·rename_i gq _;cases gq
 ·rename_i gq _;cases gq
 ·cases h
end
end Go.Vi
namespace Go.Vi
open Go.Maps (Keyed)
theorem qeM:∀(l:List (Int×Int)) (n v:Int),bX (nQ l n v) n=some v
 |[],n,v=>by simp[nQ,bX]
 |(m,u)::r,n,v=>by
  unfold nQ
  cases h:m==n with
  |true=>simp[bX]
  |false=>
   rw[cond_false]
   unfold bX
   rw[h,cond_false]
   exact qeM r n v
theorem qd8{n k:Int}(hne:k≠n)(v:Int):∀(l:List (Int×Int)),bX (nQ l n v) k=bX l k
 |[]=>by
  have:(n==k)=false:=by simpa using λe=>hne e.symm
  simp[nQ,bX,this]
 |(m,u)::r=>by
  unfold nQ
  cases h:m==n with
  |true=>
   have e:m=n:=by simpa using h
   have h2:(m==k)=false:=by rw[e];simpa using λe=>hne e.symm
   have h3:(n==k)=false:=by simpa using λe=>hne e.symm
   simp[bX,h2,h3]
  |false=>
   rw[cond_false]
   unfold bX
   rw[qd8 hne v r]
theorem qiV:∀(l:List (Int×Int)) (n v:Int),(nQ l n v).length=if(bX l n).isSome then l.length else l.length+1
 |[],n,v=>by simp[nQ,bX]
 |(m,u)::r,n,v=>by
  unfold nQ bX
  cases h:m==n with
  |true=>simp
  |false=>
   rw[cond_false,cond_false,List.length_cons,qiV r n v,List.length_cons]
   split<;>rfl
theorem qlT:∀(l:List (Int×Int)) (n v:Int) (k:Int),k∈(nQ l n v).map (·.1)↔k=n\/k∈l.map (·.1)
 |[],n,v,k=>by simp[nQ]
 |(m,u)::r,n,v,k=>by
  unfold nQ
  cases h:m==n with
  |true=>
   have e:m=n:=by simpa using h
   simp[e]
  |false=>
   rw[cond_false]
   simp only[List.map_cons,List.mem_cons,qlT r n v k]
   constructor
   ·rintro(h|h|h)
    ·exact .inr (.inl h)
    ·exact .inl h
    ·exact .inr (.inr h)
   ·rintro(h|h|h)
    ·exact .inr (.inl h)
    ·exact .inl h
    ·exact .inr (.inr h)
theorem qj8:∀(l:List (Int×Int)) (n v:Int),(l.map (·.1)).Nodup->((nQ l n v).map (·.1)).Nodup
 |[],n,v,_=>by simp[nQ]
 |(m,u)::r,n,v,h=>by
  simp only[List.map_cons,List.nodup_cons]at h
  unfold nQ
  cases hq:m==n with
  |true=>
   have e:m=n:=by simpa using hq
   subst e
   simpa using h
  |false=>
   rw[cond_false]
   simp only[List.map_cons,List.nodup_cons,qlT]
   have hne:m≠n:=by simpa using hq
   exact⟨λhh=>hh.elim hne h.1,qj8 r n v h.2⟩
theorem MF:∀{l:List (Int×Int)} {n:Int},n∉l.map (·.1)->bX l n=none
 |[],_,_=>rfl
 |(m,u)::r,n,h=>by
  simp only[List.map_cons,List.mem_cons,not_or]at h
  unfold bX
  have:(m==n)=false:=by simpa using λe=>h.1 e.symm
  rw[this,cond_false]
  exact MF h.2
theorem Ba:∀{l:List (Int×Int)} {n:Int},n∈l.map (·.1)->(bX l n).isSome=true
 |[],_,h=>by simp at h
 |(m,u)::r,n,h=>by
  unfold bX
  cases hq:m==n with
  |true=>rfl
  |false=>
   rw[cond_false]
   simp only[List.map_cons,List.mem_cons]at h
   have hne:m≠n:=by simpa using hq
   exact Ba (h.resolve_left (λe=>hne e.symm))
theorem qnl{l:List (Int×Int)}{n:Int}:(bX l n).isSome=true↔n∈l.map (·.1):=by
 constructor
 ·intro h
  cases hd:decide (n∈l.map (·.1))with
  |true=>exact of_decide_eq_true hd
  |false=>
   rw[MF (of_decide_eq_false hd)]at h
   cases h
 ·exact Ba
theorem qeO:∀{l:List (Int×Int)} {n:Int},(l.map (·.1)).Nodup->bX (nO l n) n=none
 |[],_,_=>rfl
 |(m,u)::r,n,h=>by
  simp only[List.map_cons,List.nodup_cons]at h
  unfold nO
  cases hq:m==n with
  |true=>
   have e:m=n:=by simpa using hq
   rw[cond_true,<-e]
   exact MF h.1
  |false=>
   rw[cond_false]
   unfold bX
   rw[hq,cond_false]
   exact qeO h.2
theorem RT{n k:Int}(hne:k≠n):∀(l:List (Int×Int)),bX (nO l n) k=bX l k
 |[]=>rfl
 |(m,u)::r=>by
  unfold nO
  cases hq:m==n with
  |true=>
   have e:m=n:=by simpa using hq
   have:(m==k)=false:=by rw[e];simpa using λe=>hne e.symm
   rw[cond_true,bX,this,cond_false]
  |false=>
   rw[cond_false]
   unfold bX
   rw[RT hne r]
theorem qjw:∀(l:List (Int×Int)) (n:Int),(nO l n).length+(if(bX l n).isSome then 1 else 0)=l.length
 |[],_=>rfl
 |(m,u)::r,n=>by
  unfold nO bX
  cases hq:m==n with
  |true=>simp
  |false=>
   have:=qjw r n
   rw[cond_false,cond_false,List.length_cons,List.length_cons]
   omega
theorem qn8:∀(l:List (Int×Int)) (n:Int),(nO l n).Sublist l
 |[],_=>List.Sublist.refl _
 |(m,u)::r,n=>by
  unfold nO
  cases m==n with
  |true=>exact List.sublist_cons_self _ _
  |false=>exact(qn8 r n).cons_cons _
theorem HC{k n:Int}:∀{l:List Int},n∈oz k l↔n∈l/\n≠k
 |[]=>by simp[oz]
 |m::r=>by
  unfold oz
  cases hq:m==k with
  |true=>
   have e:m=k:=by simpa using hq
   rw[cond_true,HC,List.mem_cons,e]
   constructor
   ·rintro⟨h1,h2⟩;exact⟨.inr h1,h2⟩
   ·rintro⟨h1,h2⟩;exact⟨h1.resolve_left h2,h2⟩
  |false=>
   have hne:m≠k:=by simpa using hq
   rw[cond_false,List.mem_cons,HC,List.mem_cons]
   constructor
   ·rintro(h|⟨h1,h2⟩)
    ·exact⟨.inl h,by rw[h];exact hne⟩
    ·exact⟨.inr h1,h2⟩
   ·rintro⟨h1|h1,h2⟩
    ·exact .inl h1
    ·exact .inr ⟨h1,h2⟩
theorem Rx{t:Nat}:∀{l:List Nat},nP t l=true↔t∈l
 |[]=>by simp[nP]
 |u::r=>by
  unfold nP
  rw[Bool.or_eq_true,Rx,List.mem_cons]
  constructor
  ·rintro(h|h)
   ·exact .inl (Nat.eq_of_beq_eq_true h).symm
   ·exact .inr h
  ·rintro(h|h)
   ·exact .inl (by rw[h];exact Nat.beq_refl _)
   ·exact .inr h
theorem Up{t u:Nat}:∀{l:List Nat},u∈Hg t l↔u∈l/\u≠t
 |[]=>by simp[Hg]
 |m::r=>by
  unfold Hg
  cases hq:Nat.beq m t with
  |true=>
   have e:=Nat.eq_of_beq_eq_true hq
   rw[cond_true,Up,List.mem_cons,e]
   constructor
   ·rintro⟨h1,h2⟩;exact⟨.inr h1,h2⟩
   ·rintro⟨h1,h2⟩;exact⟨h1.resolve_left h2,h2⟩
  |false=>
   have hne:=Nat.ne_of_beq_eq_false hq
   rw[cond_false,List.mem_cons,Up,List.mem_cons]
   constructor
   ·rintro(h|⟨h1,h2⟩)
    ·exact⟨.inl h,by rw[h];exact hne⟩
    ·exact⟨.inr h1,h2⟩
   ·rintro⟨h1|h1,h2⟩
    ·exact .inl h1
    ·exact .inr ⟨h1,h2⟩
abbrev MD:=DataW Unit
structure AO (D:MD) (kv:List (Int×Int)):Prop where
 has:∀n,Maps.has D (.int .i64 n)=(bX kv n).isSome
 val:∀n z,D.atKey (.int .i64 n) z=match bX kv n with|some v=>.lit (.int .i64 v)|none=>z
 size:Maps.size D=kv.length
 nd:(kv.map (·.1)).Nodup
theorem TJ{n k:Int}(h:k≠n):(Lit.int .i64 k)≠.int .i64 n:=λe=>h (by injection e)
theorem AO.empty:AO (.map []) []:=⟨λ_=>rfl,λ_ _=>rfl,rfl,List.nodup_nil⟩
theorem AO.put{D:MD}{kv:List (Int×Int)}(h:AO D kv)(hD:Maps.Tidy D){n:Int}(hk:WideAt.IsKeyLit (.int .i64 n))(v:Int):AO (D.put (.int .i64 n) (.lit (.int .i64 v))) (nQ kv n v):=by
 refine⟨λm=>?_,λm z=>?_,?_,qj8 _ _ _ h.nd⟩
 ·by_cases e:m=n
  ·subst e;rw[Maps.has_put_same hD.isMap hk,qeM];rfl
  ·rw[Maps.has_put_other (TJ e),qd8 e];exact h.has m
 ·by_cases e:m=n
  ·subst e;rw[Maps.atKey_put_same hD.isMap hk,qeM]
  ·rw[Maps.atKey_put_other (TJ e),qd8 e];exact h.val m z
 ·rw[Maps.size_put hD,qiV,h.has,h.size]
theorem AO.del{D:MD}{kv:List (Int×Int)}(h:AO D kv)(hD:Maps.Tidy D)(n:Int):AO (D.del (.int .i64 n)) (nO kv n):=by
 refine⟨λm=>?_,λm z=>?_,?_,List.Sublist.nodup ((qn8 kv n).map _) h.nd⟩
 ·by_cases e:m=n
  ·subst e;rw[Maps.has_del_same,qeO h.nd];rfl
  ·rw[Maps.has_del_other (TJ e),RT e];exact h.has m
 ·by_cases e:m=n
  ·subst e;rw[Maps.atKey_del_same,qeO h.nd]
  ·rw[Maps.atKey_del_other (TJ e),RT e];exact h.val m z
 ·have h1:=Maps.size_del hD (k:=.int .i64 n)
  have h2:=qjw kv n
  rw[h.has,h.size]at h1
  omega
def Hh(P:Program)(w:World)(m:Ms)(b:Nat):Prop:=
 ∃D:MD,w.ownsMap P m.kt (plainElem P m.vt) b m.kv.length D/\AO D m.kv
def Ga(P:Program)(w:World)(m:Ms)(b r:Nat)(lf:List Int):Prop:=
 ∃(D:MD) (left:Lit->Bool) (cnt:Nat),w.ranges P m.kt (plainElem P m.vt) b r m.kv.length D left cnt/\AO D m.kv/\∀n,left (.int .i64 n)=true↔n∈lf
def vO(P:Program)(C:cM)(m:Ms)(os:Nat->Option Obj)(a:Act)(w:World)(H:FH)(Φ:Nat->qH)(b:Nat):Prop:=
 qT P m.kt (.int .i64)/\qT P m.vt (.int .i64)/\ei C w H Φ os b/\Hh P w m b/\(∀t∈m.tm,a.tmps.getD t undef = .map (some b))/\
  ∀ti lf,m.it=some (ti,lf)->∃r,ei C w H Φ os r/\Ga P w m b r lf/\(∀t∈ti,a.tmps.getD t undef = .pointer (some ⟨r,0,none⟩))/\
   ∀n v,m.cur=some (n,v)->(Instr.entry (.pointer (some ⟨r,0,none⟩))).run P w = .ok (.tuple #[.int .i64 n,.int .i64 v]) w
def uS(P:Program)(C:cM)(m:Ms)(os:Nat->Option Obj)(a:Act)(w:World)(H:FH)(Φ:Nat->qH):Prop:=∃b,vO P C m os a w H Φ b
def uC(P:Program)(C:cM)(mp:Option Ms)(os:Nat->Option Obj)(a:Act)(w:World)(H:FH)(Φ:Nat->qH):Prop:=
 match mp with
 |none=>True
 |some m=>uS P C m os a w H Φ
def j1(P:Program)(C:cM)(s:St)(a:Act)(w:World):Prop:=∃H Φ,qh P C s a w H Φ/\uC P C s.mp s.obj a w H Φ
section
variable {P:Program} {C:cM} {aa:jB} {R:Type} {r:R} {s s':St} {a:Act} {w w':World} {H H':FH} {Φ aU:Nat->qH}
theorem j1.pM(h:j1 P C s a w):dS P C s a w:=by obtain⟨H,Φ,h,_⟩:=h;exact⟨H,Φ,h⟩
theorem dS.nM(h:dS P C s a w)(hm:s.mp=none):j1 P C s a w:=by obtain⟨H,Φ,h⟩:=h;exact⟨H,Φ,h,by rw[hm];trivial⟩
theorem qh.aL(h:qh P C s a w H Φ)(m:Option Ms):qh P C (s.aL m) a w H Φ:=h.congr rfl rfl
theorem Hh.block{m:Ms}{b:Nat}(h:Hh P w m b)(hb:w'.heap[b]? = w.heap[b]?):Hh P w' m b:=by
 obtain⟨D,⟨es,clock,h1,h2⟩,h3⟩:=h
 exact⟨D,⟨es,clock,hb.trans h1,h2⟩,h3⟩
theorem Ga.block{m:Ms}{b i:Nat}{lf:List Int}(h:Ga P w m b i lf)(hb:w'.heap[b]? = w.heap[b]?)(hi:w'.heap[i]? = w.heap[i]?):Ga P w' m b i lf:=by
 obtain⟨D,left,cnt,⟨es,clock,since,seen,c0,h1,h2,h3,h4,h5,h6⟩,h7⟩:=h
 exact⟨D,left,cnt,⟨es,clock,since,seen,c0,hb.trans h1,h2,h3,h4,hi.trans h5,h6⟩,h7⟩
def XB(os:Nat->Option Obj)(Φ:Nat->qH)(b:Nat):Prop:=∃id o,os id=some o/\b∈(Φ id).fp
def uz(C:cM)(w:World)(H:FH)(os:Nat->Option Obj)(Φ:Nat->qH):cM:=⟨w,λb=>(C.M0 b\/C.w0.heap.size<=b)/\H b=none/\((∃c t f,w.heap[b]? = some (.cells c t f))\/XB os Φ b),H,C.nt,C.gQ,C.ds,C.gh⟩
theorem Rk{os:Nat->Option Obj}(hC:qD C aa):qD (uz C w H os Φ) aa:=⟨hC.nt,hC.gQ⟩
theorem qi.ctx{C C':cM}{os:Nat->Option Obj}(hg:C'.gh=C.gh)(hp:C'.gQ=C.gQ)(hf:∀b,ei C w H Φ os b->(∃c t f,w.heap[b]? = some (.cells c t f))->ei C' w H Φ os b):∀{av:AV} {v:Value},qi P C w H Φ os av v->qi P C' w H Φ os av v
 |.dead,_,h=>h
 |.val _ _,_,h=>h
 |.ref _ _,_,h=>h
 |.ptr _ _,_,h=>h
 |.view _ _,_,h=>h
 |.d_ id p tid e l,v,h=>by
  obtain⟨o,h1,h2,h3,h4,fp,h5,h6⟩:=h
  exact⟨o,h1,h2,h3,h4,fp,h5,λb hb=>⟨(h6 b hb).1,(h6 b hb).2.imp_left (λhh=>hf b hh (qm.cells _ (by simpa[Ty.aD]using h2) h5 b hb))⟩⟩
 |.cut _ _ _ _,_,h=>h
 |.fn _ _ _,_,⟨vs,us,h1,h2,h3⟩=>⟨vs,us,h1,qi.ctx hg hp hf h2,qi.ctx hg hp hf h3⟩
 |.nil,_,h=>h
 |.gh _ _,_,⟨u,h1,h2⟩=>⟨u,by rw[hg];exact h1,qi.ctx hg hp hf h2⟩
 |.cv _ _ _,_,⟨b,cv,h1,h2⟩=>⟨b,cv,h1,by rw[hp];exact h2⟩
 |.cons _ _,_,⟨u,us,h1,h2,h3⟩=>⟨u,us,h1,qi.ctx hg hp hf h2,qi.ctx hg hp hf h3⟩
theorem qh.jv(hs:qh P C s a w H Φ):qh P (uz C w H s.obj Φ) s a w H Φ:=by
 refine⟨hs.defers,hs.size,FH.le_refl _,hs.hok,λb c hb=>.inl hb,jO.refl _ _,?_,?_,hs.aN,hs.pins⟩
 ·intro t av ht
  exact qi.ctx (C:=C) (C':=uz C w H s.obj Φ) rfl rfl (λb hb hc=>(⟨hb.fz,hb.obj,.inl ⟨hb.may,hb.fz,.inl hc⟩,hb.lt⟩:ei (uz C w H s.obj Φ) w H Φ s.obj b)) (hs.ts t av ht)
 ·intro id o ho
  have h:=hs.os id o ho
  exact⟨h.1,λb hb=>⟨(h.2 b hb).1,.inl ⟨(h.2 b hb).2.1,(h.2 b hb).1,.inr ⟨id,o,ho,hb⟩⟩,(h.2 b hb).2.2⟩⟩
theorem qh.eH{a':Act}(hs:qh P C s a w H Φ)(h:qh P (uz C w H s.obj Φ) s' a' w' H' aU):qh P C s' a' w' H' aU/\
  ∀b,ei C w H Φ s.obj b->(¬∃c t f,w.heap[b]? = some (.cells c t f))->ei C w' H' aU s'.obj b/\w'.heap[b]? = w.heap[b]?:=by
 have hmay:∀b,(uz C w H s.obj Φ).M0 b\/(uz C w H s.obj Φ).w0.heap.size<=b->C.M0 b\/C.w0.heap.size<=b:=by
  rintro b (hb|hb)
  ·exact hb.1
  ·exact .inr (Nat.le_trans hs.mod.size hb)
 refine⟨⟨h.defers,h.size,FH.le_trans hs.le h.le,h.hok,?_,hs.mod.bA h.mod (λi hi=>hi.1),?_,?_,h.aN,h.pins⟩,?_⟩
 ·intro b c hb
  rcases h.hnew b c hb with h1|h1|h1
  ·exact hs.hnew b c h1
  ·exact .inr (hmay b (.inl h1))
  ·exact .inr (hmay b (.inr h1))
 ·intro t av ht
  exact qi.ctx (C:=uz C w H s.obj Φ) (C':=C) rfl rfl (λb hb _=>(⟨hb.fz,hb.obj,hmay b hb.may,hb.lt⟩:ei C w' H' aU s'.obj b)) (h.ts t av ht)
 ·intro id o ho
  have h1:=h.os id o ho
  exact⟨h1.1,λb hb=>⟨(h1.2 b hb).1,hmay b (h1.2 b hb).2.1,(h1.2 b hb).2.2⟩⟩
 ·intro b hb hnc
  have hnm:¬(uz C w H s.obj Φ).M0 b:=λhh=>hh.2.2.elim hnc (λ⟨id,o,ho,CI⟩=>hb.obj id o ho CI)
  refine⟨⟨?_,?_,hb.may,Nat.lt_of_lt_of_le hb.lt h.mod.size⟩,h.mod.block b hb.lt hnm⟩
  ·cases hq:H' b with
   |none=>rfl
   |some c=>
    rcases h.hnew b c hq with h1|h1|h1
    ·have zG:H b=some c:=h1
     rw[hb.fz]at zG;cases zG
    ·exact absurd h1 hnm
    ·have zG:w.heap.size<=b:=h1
     have:=hb.lt
     omega
  ·intro id o ho CI
   rcases((h.os id o ho).2 b CI).2.1 with h1|h1
   ·exact hnm h1
   ·have zG:w.heap.size<=b:=h1
    have:=hb.lt
    omega
theorem Hh.kf{m:Ms}{b:Nat}(h:Hh P w m b):¬∃c t f,w.heap[b]? = some (.cells c t f):=by
 obtain⟨D,⟨es,clock,h1,_⟩,_⟩:=h
 rintro⟨c,t,f,h2⟩
 rw[h1]at h2;cases h2
theorem Ga.kf{m:Ms}{b i:Nat}{lf:List Int}(h:Ga P w m b i lf):¬∃c t f,w.heap[i]? = some (.cells c t f):=by
 obtain⟨D,left,cnt,⟨es,clock,since,seen,c0,_,_,_,_,h5,_⟩,_⟩:=h
 rintro⟨c,t,f,h2⟩
 rw[h5]at h2;cases h2
theorem MR{d:Option Nat}{v:Value}{t:Nat}(h:d≠some t):(a.put d v).tmps.getD t undef=a.tmps.getD t undef:=by
 cases d with
 |none=>rfl
 |some d=>
  have hne:d≠t:=λe=>h (by rw[e])
  simp only[Act.put,Array.getD_eq_getD_getElem?,Array.getElem?_setIfInBounds_ne hne]
theorem Zh{m:Ms}{d:Option Nat}{t:Nat}(h:t∈(m.aB d).tm):t∈m.tm/\d≠some t:=by
 cases d with
 |none=>exact⟨h,by simp⟩
 |some d=>
  have h2:=Up.1 h
  exact⟨h2.1,λe=>h2.2 (by injection e with e;exact e.symm)⟩
theorem qjZ{m:Ms}{d:Option Nat}{ti:List Nat}{lf:List Int}(h:(m.aB d).it=some (ti,lf)):∃FR,m.it=some (FR,lf)/\∀t∈ti,t∈FR/\d≠some t:=by
 cases d with
 |none=>exact⟨ti,h,λt ht=>⟨ht,by simp⟩⟩
 |some d=>
  have h':(m.it.map λx=>(Hg d x.1,x.2))=some (ti,lf):=h
  obtain⟨⟨FR,lf'⟩,h1,h2⟩:=Option.map_eq_some_iff.1 h'
  simp only[Prod.mk.injEq]at h2
  obtain⟨rfl,rfl⟩:=h2
  exact⟨FR,h1,λt ht=>by
   have h3:=Up.1 ht
   exact⟨h3.1,λe=>h3.2 (by injection e with e;exact e.symm)⟩⟩
theorem MI{m:Ms}{d:Option Nat}:(m.aB d).kt=m.kt/\(m.aB d).vt=m.vt/\(m.aB d).kv=m.kv/\(m.aB d).cur=m.cur:=by
 cases d<;>exact⟨rfl,rfl,rfl,rfl⟩
theorem vO.step{m:Ms}{os os':Nat->Option Obj}{d:Option Nat}{v:Value}{b:Nat}(h:vO P C m os a w H Φ b)
  (hk:∀b,ei C w H Φ os b->(¬∃c t f,w.heap[b]? = some (.cells c t f))->ei C w' H' aU os' b/\w'.heap[b]? = w.heap[b]?) {m':Ms} (hm:m'=(m.aB d).calm\/(w'=w/\m'=m.aB d)):
  vO P C m' os' (a.put d v) w' H' aU b:=by
 obtain⟨h1,h2,hb,CK,wO,hit⟩:=h
 obtain⟨k1,k2⟩:=hk b hb CK.kf
 have e:m'.kt=m.kt/\m'.vt=m.vt/\m'.kv=m.kv/\m'.tm=(m.aB d).tm/\m'.it=(m.aB d).it:=by
  rcases hm with rfl|⟨_,rfl⟩
  ·exact⟨MI.1,MI.2.1,MI.2.2.1,rfl,rfl⟩
  ·exact⟨MI.1,MI.2.1,MI.2.2.1,rfl,rfl⟩
 obtain⟨e1,e2,e3,e4,e5⟩:=e
 refine⟨by rw[e1];exact h1,by rw[e2];exact h2,k1,?_,?_,?_⟩
 ·have:=CK.block k2
  unfold Hh at this ⊢
  rw[e1,e2,e3];exact this
 ·intro t ht
  rw[e4]at ht
  obtain⟨q1,q2⟩:=Zh ht
  rw[MR q2]
  exact wO t q1
 ·intro ti lf VB
  rw[e5]at VB
  obtain⟨FR,q1,q2⟩:=qjZ VB
  obtain⟨i,hi,NR,abg,fL⟩:=hit FR lf q1
  obtain⟨k3,k4⟩:=hk i hi NR.kf
  refine⟨i,k3,?_,λt ht=>?_,λn u hc=>?_⟩
  ·have:=NR.block k2 k4
   unfold Ga at this ⊢
   rw[e1,e2,e3];exact this
  ·obtain⟨q3,q4⟩:=q2 t ht
   rw[MR q4]
   exact abg t q3
  ·rcases hm with rfl|⟨rfl,rfl⟩
   ·cases hc
   ·exact fL n u (by rw[<-(MI (m:=m) (d:=d)).2.2.2];exact hc)
theorem uS.step{m:Ms}{os os':Nat->Option Obj}{d:Option Nat}{v:Value}(h:uS P C m os a w H Φ)
  (hk:∀b,ei C w H Φ os b->(¬∃c t f,w.heap[b]? = some (.cells c t f))->ei C w' H' aU os' b/\w'.heap[b]? = w.heap[b]?) {m':Ms} (hm:m'=(m.aB d).calm\/(w'=w/\m'=m.aB d)):
  uS P C m' os' (a.put d v) w' H' aU:=by
 obtain⟨b,h⟩:=h
 exact⟨b,h.step hk hm⟩
theorem Zt{d:Option Nat}{v:Value}(hs:qh P C s a w H Φ)(hM:uC P C s.mp s.obj a w H Φ)(h:dS P (uz C w H s.obj Φ) s' (a.put d v) w'){mp:Option Ms}
  (hm:mp=none\/∃m m',s.mp=some m/\mp=some m'/\(m'=(m.aB d).calm\/(w'=w/\m'=m.aB d))):j1 P C (s'.aL mp) (a.put d v) w':=by
 obtain⟨H',aU,h⟩:=h
 obtain⟨k1,k2⟩:=hs.eH h
 refine⟨H',aU,k1.aL mp,?_⟩
 rcases hm with rfl|⟨m,m',e1,rfl,hm⟩
 ·trivial
 ·rw[e1]at hM
  exact uS.step hM k2 hm
theorem qh.other(hs:qh P C s a w H Φ){b:Nat}(hb:ei C w H Φ s.obj b)(hm:jO (· = b) w w'):qh P C (s.af AV.aH) a w' H Φ:=by
 have hne:∀j o,s.obj j=some o->∀c∈(Φ j).fp,c≠b:=λj o ho c hc e=>hb.obj j o ho (by rw[<-e];exact hc)
 have:=hs.rH (s':=s.af AV.aH) (ch:=λ_=>none) (F:=AV.aH) (w':=w') (H':=H) (λid x hx=>by cases hx) (λid=>rfl) (λt=>St.aS _ _ _) (λid x hx=>by cases hx) (λ_ h=>h) (FH.le_refl _)
  (hs.hok.mod hm (λk hk=>by rw[hk];exact hb.fz)) hs.hnew (hs.mod.bA hm (λk hk=>by rw[hk];exact hb.may)) hm.size
  (λj o' _ ho c hc=>⟨hm.block c ((hs.os j o' ho).2 c hc).2.2 (hne j o' ho c hc),((hs.os j o' ho).2 c hc).1⟩) (λid x hx=>by cases hx) (λi j x y _ hx=>by cases hx)
 exact this
end
def uB(P:Program)(C:cM)(o:Oper)(a:Act)(w:World)(s':St):Prop:=
 match(execOp a.eval o).run P w with
 |.ok (.value v) w'=>j1 P C s' (a.put o.dst v) w'
 |.ok .skip w'=>j1 P C s' (a.put o.dst undef) w'
 |.ok (.enter f args) w'=>Calls P f args w' λe w''=>∃v,e = .returned v/\j1 P C s' (a.put o.dst v) w''
 |_=>False
section
variable {P:Program} {C:cM} {aa:jB} {R:Type} {r:R} {s s':St} {a:Act} {w w':World} {H H':FH} {Φ aU:Nat->qH} {dst:Option Nat} {ty:TypeId} {pos:String} {after:Array Edge} {guard:Option (Nat×Bool)} {k:St->Option R}
theorem Kn{o:Oper}{v:Value}(hrun:(execOp a.eval o).run P w = .ok (.value v) w')(h:j1 P C s' (a.put o.dst v) w'):uB P C o a w s':=by
 unfold uB;rw[hrun];exact h
theorem qnv{o:Oper}(hrun:(execOp a.eval o).run P w = .ok .skip w')(h:j1 P C s' (a.put o.dst undef) w'):uB P C o a w s':=by
 unfold uB;rw[hrun];exact h
theorem qhn{o:Oper}(hs:qh P C s a w H Φ)(hM:uC P C s.mp s.obj a w H Φ)(h:ew P (uz C w H s.obj Φ) o a w s'){mp:Option Ms}(hm:mp=none\/∃m,s.mp=some m/\mp=some (m.aB o.dst).calm):uB P C o a w (s'.aL mp):=by
 have hm':∀w',mp=none\/∃m m',s.mp=some m/\mp=some m'/\(m'=(m.aB o.dst).calm\/(w'=w/\m'=m.aB o.dst)):=λw'=>hm.imp_right (λ⟨m,e1,e2⟩=>⟨m,_,e1,e2,.inl rfl⟩)
 unfold ew at h
 unfold uB
 split at h
 ·rename_i v w' e;rw[e];exact Zt hs hM h (hm' _)
 ·rename_i w' e;rw[e];exact Zt hs hM h (hm' _)
 ·rename_i f args w' e
  rw[e]
  refine h.mono ?_
  rintro e w'' ⟨v,he,bE⟩
  exact⟨v,he,Zt hs hM bE (hm' _)⟩
 ·exact h.elim
theorem qmO{o:Oper}(hs:qh P C s a w H Φ)(hM:uC P C s.mp s.obj a w H Φ)(h:fG P (uz C w H s.obj Φ) o a w s'){mp:Option Ms}(hm:mp=none\/∃m,s.mp=some m/\mp=some (m.aB o.dst)):uB P C o a w (s'.aL mp):=by
 obtain⟨v,h1,h2⟩:=h
 exact Kn (h1 w (jO.refl _ _)) (Zt hs hM h2 (hm.imp_right (λ⟨m,e1,e2⟩=>⟨m,_,e1,e2,.inr ⟨rfl,rfl⟩⟩)))
theorem Zo(hs:qh P C s a w H Φ){x:Operand}{n:Int}(h:Rj s x=some n):a.eval x = .int .i64 n:=by
 unfold Rj at h
 split at h
 ·rename_i he
  cases h
  exact(ql hs qy he).int
 ·cases h
theorem Zg{n:Int}{k:Option R}(h:dR n k=some r):(Lit.int .i64 n).wf=true/\k=some r:=by
 rw[YJ]at h
 split at h
 ·rename_i hh
  refine⟨?_,h⟩
  have e1:IntKind.i64.min = -9223372036854775808:=by decide
  have e2:IntKind.i64.max=9223372036854775807:=by decide
  simp only[Lit.wf,e1,e2,Bool.and_eq_true,decide_eq_true_eq]
  exact hh
 ·cases h
theorem RI{m:Ms}{x:Operand}{b:Nat}(wO:∀t∈m.tm,a.tmps.getD t undef = .map (some b))(h:vj m x=true):a.eval x = .map (some b):=by
 cases x with
 |tmp t=>exact wO t (Rx.1 h)
 |_=>cases h
theorem qnq{m:Ms}{x:Operand}(h:Mx m x=true):∃t ti lf,x = .tmp t/\m.it=some (ti,lf)/\t∈ti:=by
 cases x with
 |tmp t=>
  unfold Mx at h
  simp only at h
  split at h
  ·rename_i ti lf e;exact⟨t,ti,lf,rfl,e,Rx.1 h⟩
  ·cases h
 |_=>cases h
theorem qm5(vt:TypeId)(hv:qT P vt (.int .i64)):plainElem (H:=Unit) P vt (.int .i64 0)=some (.lit (.int .i64 0),[]):=plainElem_int hv.int (by decide)
theorem qgB{k:TypeId}{Rd:Value->Option (MD×List MemPlace)}{b n:Nat}{D:MD}(h:w.ownsMap P k Rd b n D):w.ownsMap P k Rd b (Maps.size D) D:=by
 obtain⟨es,clock,h1,h2,_,rfl⟩:=h
 exact⟨es,clock,h1,h2,by simp[Maps.size,length_sorted],rfl⟩
theorem jO.lQ{b:Nat}(h:w.grownBy w' (some b)):jO (· = b) w w':=⟨h.os,h.tape,h.output,h.size,λi hi hne=>h.block i hi (λe=>hne (by injection e))⟩
theorem jO.xX(h:w.grownBy w' none):jO jA w w':=⟨h.os,h.tape,h.output,h.size,λi hi _=>h.block i hi (by simp)⟩
theorem ei.keep{b c:Nat}(h:ei C w H Φ s.obj c)(hm:jO (· = b) w w'):ei C w' H Φ (s.af AV.aH).obj c:=⟨h.fz,h.obj,h.may,Nat.lt_of_lt_of_le h.lt hm.size⟩
theorem uS.k_{m:Ms}{os:Nat->Option Obj}(h:uS P C m os a w H Φ){x:Operand}(hx:Mx m x=true):∃b ti lf i,m.it=some (ti,lf)/\a.eval x = .pointer (some ⟨i,0,none⟩)/\ei C w H Φ os b/\(∀t∈m.tm,a.tmps.getD t undef = .map (some b))/\ei C w H Φ os i/\Ga P w m b i lf/\
  (∀t∈ti,a.tmps.getD t undef = .pointer (some ⟨i,0,none⟩))/\∀n v,m.cur=some (n,v)->(Instr.entry (.pointer (some ⟨i,0,none⟩))).run P w = .ok (.tuple #[.int .i64 n,.int .i64 v]) w:=by
 obtain⟨t,ti,lf,rfl,hit,ht⟩:=qnq hx
 obtain⟨b,_,_,hb,CK,wO,hi⟩:=h
 obtain⟨i,h1,h2,h3,h4⟩:=hi ti lf hit
 exact⟨b,ti,lf,i,hit,h3 t ht,hb,wO,h1,h2,h3,h4⟩
theorem qmE(ae:qx P aa)(hC:qD C aa)(habs:∀{C':cM} {o:Oper} {k':St->Option R},qD C' aa->qh P C' s a w H Φ->qK aa.nt o.dst=true->qM aa o s k'=some r->∃s',k' s'=some r/\(jX o=true->fG P C' o a w s')/\ew P C' o a w s')
  {o:Oper} {m:Ms} (hs:qh P C s a w H Φ) (hmp:s.mp=some m) (hM:uS P C m s.obj a w H Φ) (hd:qK aa.nt o.dst=true) (h:qnM aa o s m k=some r):∃s',k s'=some r/\uB P C o a w s':=by
 have hM':uC P C s.mp s.obj a w H Φ:=by rw[hmp];exact hM
 have ue:qK C.nt o.dst=true:=by rw[hC.nt];exact hd
 have Jl:∀{k':St->Option R},(k'=λs'=>k (s'.aL (some (bif jX o then m.aB o.dst else(m.aB o.dst).calm))))->qM aa o s k'=some r->∃s',k s'=some r/\uB P C o a w s':=by
  rintro k' rfl h
  obtain⟨s',h1,h2,h3⟩:=habs (Rk hC) hs.jv hd h
  cases hst:jX o with
  |true=>
   rw[hst,cond_true]at h1
   exact⟨_,h1,qmO hs hM' (h2 hst) (.inr ⟨m,hmp,rfl⟩)⟩
  |false=>
   rw[hst,cond_false]at h1
   exact⟨_,h1,qhn hs hM' h3 (.inr ⟨m,hmp,rfl⟩)⟩
 have same:∀{v:Value} {av:AV},qi P C w H Φ s.obj av v->(execOp a.eval o).run P w = .ok (.value v) w->uB P C o a w ((s.ah o.dst av).aL (some (m.aB o.dst))):=by
  intro v av hv hrun
  refine Kn hrun ⟨H,Φ,(hs.ah ue hv).aL _,?_⟩
  have ho:((s.ah o.dst av).aL (some (m.aB o.dst))).obj=s.obj:=by unfold St.ah;cases o.dst<;>rfl
  show uS P C _ ((s.ah o.dst av).aL (some (m.aB o.dst))).obj _ w H Φ
  rw[ho]
  exact uS.step hM (λb hb _=>⟨hb,rfl⟩) (.inr ⟨rfl,rfl⟩)
 obtain⟨b,hk,hv,hb,⟨D,hown,hrel⟩,wO,hit⟩:=id hM
 have K:=Maps.int_keyed hk.int
 have oH:∀(x:Operand),(o.op = .move x\/o.op = .assign x)->qM aa o s (λs'=>k (s'.aL (some (bif vj m x then(m.aB o.dst).add o.dst else m.aB o.dst))))=some r->∃s',k s'=some r/\uB P C o a w s':=by
  intro x hop h
  have hst:jX o=true:=by rcases hop with e|e<;>simp[jX,e]
  cases hq:vj m x with
  |false=>
   rw[hq]at h
   exact Jl (by rw[hst];rfl) h
  |true=>
   rw[hq]at h
   simp only[cond_true]at h
   obtain⟨s',h1,h2,_⟩:=habs (Rk hC) hs.jv hd h
   obtain⟨v,g1,H',aU,g2⟩:=h2 hst
   have g1:=g1 w (jO.refl _ _)
   have hrun:(execOp a.eval o).run P w = .ok (.value (a.eval x)) w:=by
    obtain⟨dst,op,ty,pos,after,guard⟩:=o
    rcases hop with e|e<;>(simp only at e;subst e;rfl)
   rw[hrun]at g1
   have hv:v=a.eval x:=by injection g1 with g1 _;injection g1 with g1;exact g1.symm
   subst hv
   obtain⟨k1,k2⟩:=hs.eH g2
   obtain⟨b,hM⟩:=id hM
   have hb:=hM.step (d:=o.dst) (v:=a.eval x) k2 (.inr ⟨rfl,rfl⟩)
   refine⟨_,h1,Kn hrun ⟨H',aU,k1.aL _,b,?_⟩⟩
   have hx:=RI hM.2.2.2.2.1 hq
   cases ud:o.dst with
   |none=>rw[ud]at hb;exact hb
   |some d=>
    rw[ud]at hb hd
    obtain⟨q1,q2,q3,q4,q5,q6⟩:=hb
    refine⟨q1,q2,q3,q4,λt ht=>?_,q6⟩
    rcases List.mem_cons.1 ht with rfl|ht
    ·rw[Ze (by rw[hs.size,hC.nt];exact Eq.mp Nat.blt_eq hd),if_pos rfl]
     exact hx
    ·exact q5 t ht
 obtain⟨dst,op,ty,pos,after,guard⟩:=o
 simp only at ue
 unfold qnM at h
 split at h
 ·-- lookup
  rename_i T x i hop
  simp only at hop
  subst hop
  cases hq:vj m x&&decide (lk aa.maps T=some (m.kt,m.vt))with
  |false=>rw[hq]at h;cases h
  |true=>
  rw[hq,cond_true]at h
  rw[Bool.and_eq_true]at hq
  have hx:=RI wO hq.1
  obtain⟨hT,_,_⟩:=ae.maps T _ _ (of_decide_eq_true hq.2)
  split at h
  case h_2=>cases h
  rename_i n hn
  have hi:=Zo hs hn
  obtain⟨hwf,h⟩:=Zg h
  obtain⟨v,ps,hrun,CO⟩:=hown.look_ok K hT (hv.zeroValue w) (qm5 m.vt hv) (Maps.keyOf_int_mk hk.int hwf)
  rw[hrel.val]at CO
  rw[hrel.has]at hrun
  split at h
  ·rename_i u hu
   rw[hu]at CO hrun
   obtain⟨c,rfl,hc,_⟩:=plainElem_int_inv hv.int CO
   simp only[Prod.mk.injEq,DataW.lit.injEq,Lit.int.injEq,true_and]at hc
   obtain⟨rfl,_⟩:=hc
   exact⟨_,h,same (v:=.tuple #[.int .i64 u,.bool true]) ⟨.int .i64 u,[.bool true],rfl,qi.bc _ _ _ _ _ _,.bool true,[],rfl,qi.bC _ _ _ _ _,rfl⟩ (by simp[execOp,hx,hi,hrun])⟩
  ·rename_i hu
   rw[hu]at CO hrun
   obtain⟨c,rfl,hc,_⟩:=plainElem_int_inv hv.int CO
   simp only[Prod.mk.injEq,DataW.lit.injEq,Lit.int.injEq,true_and]at hc
   obtain⟨rfl,_⟩:=hc
   exact⟨_,h,same (v:=.tuple #[.int .i64 0,.bool false]) ⟨.int .i64 0,[.bool false],rfl,qi.bc _ _ _ _ _ _,.bool false,[],rfl,qi.bC _ _ _ _ _,rfl⟩ (by simp[execOp,hx,hi,hrun])⟩
 ·-- a store
  rename_i T x i y hop
  simp only at hop
  subst hop
  cases hq:vj m x&&decide (lk aa.maps T=some (m.kt,m.vt))with
  |false=>rw[hq]at h;cases h
  |true=>
  rw[hq,cond_true]at h
  rw[Bool.and_eq_true]at hq
  have hx:=RI wO hq.1
  obtain⟨hT,_,_⟩:=ae.maps T _ _ (of_decide_eq_true hq.2)
  split at h
  case h_2=>cases h
  rename_i n u hn hu
  have hi:=Zo hs hn
  have hy:=Zo hs hu
  obtain⟨hwf,h⟩:=Zg h
  obtain⟨vq,h⟩:=Zg h
  obtain⟨_,hlen,h⟩:=MO h
  have hkey:=Maps.keyOf_int_mk hk.int hwf
  obtain⟨w',hrun,hown',tX⟩:=hown.store K hT (by unfold maxLen;omega) hkey (plainElem_int hv.int vq)
  have cH:=jO.lQ tX.grown
  have kB:=hrel.put (hown.tidy K) (K.key hkey) u
  refine⟨_,h,qnv (w':=w') (by simp[execOp,hx,hi,hy,hrun]) ⟨H,Φ,((hs.other hb cH).ah ue (av:=.dead) (v:=undef) trivial).aL _,?_⟩⟩
  have ho:∀mm,((((s.af AV.aH).ah dst .dead)).aL mm).obj=s.obj:=by intro mm;unfold St.ah;cases dst<;>rfl
  show uS P C _ _ _ _ _ _
  rw[ho]
  refine⟨b,hk,hv,hb.keep cH,⟨_,?_,kB⟩,λt ht=>?_,λti lf e=>by cases e⟩
  ·rw[<-kB.size]
   exact qgB hown'
  ·obtain⟨q1,q2⟩:=Zh ht
   rw[MR q2];exact wO t q1
 ·-- range
  rename_i T x hop
  simp only at hop
  subst hop
  split at h
  case h_2=>cases h
  rename_i d ud
  simp only at ud
  subst ud
  cases hq:vj m x&&decide (lk aa.maps T=some (m.kt,m.vt))with
  |false=>rw[hq]at h;cases h
  |true=>
  rw[hq,cond_true]at h
  rw[Bool.and_eq_true]at hq
  have hx:=RI wO hq.1
  obtain⟨hT,_,_⟩:=ae.maps T _ _ (of_decide_eq_true hq.2)
  obtain⟨w',hrun,IA,fE,hsz⟩:=hown.range K hT
  have cH:=jO.xX fE
  have hs2:=(hs.grow cH).set (d:=d) (av:=.dead) (v:=.pointer (some ⟨w.heap.size,0,none⟩)) (Eq.mp Nat.blt_eq ue) trivial
  refine⟨_,h,Kn (w':=w') (v:=.pointer (some ⟨w.heap.size,0,none⟩)) (by simp[execOp,hx,hrun]) ⟨H,Φ,hs2.aL _,?_⟩⟩
  have hfr:∀c,ei C w H Φ s.obj c->ei C w' H Φ s.obj c:=λc hc=>⟨hc.fz,hc.obj,hc.may,by have:=hc.lt;omega⟩
  refine⟨b,hk,hv,hfr b hb,⟨D,?_,hrel⟩,λt ht=>?_,?_⟩
  ·exact IA.owns
  ·have ht':=Up.1 ht
   rw[MR (λe=>ht'.2 (by injection e with e;exact e.symm))]
   exact wO t ht'.1
  ·rintro ti lf e
   cases e
   refine⟨w.heap.size,⟨?_,?_,.inr hs.mod.size,by omega⟩,⟨D,_,_,IA,hrel,λn=>?_⟩,λt ht=>?_,λn v e=>by cases e⟩
   ·cases hq:H w.heap.size with
    |none=>rfl
    |some c=>exact absurd (hs.hok.lt hq) (by omega)
   ·intro id o ho CI
    have:=((hs.os id o ho).2 _ CI).2.2
    omega
   ·rw[hrel.has];exact qnl
   ·rw[List.mem_singleton.1 ht]
    rw[Ze (by rw[hs.size];exact Eq.mp Nat.blt_eq ue),if_pos rfl]
 ·-- next
  rename_i x hop
  simp only at hop
  subst hop
  cases hq:Mx m x with
  |false=>rw[hq]at h;cases h
  |true=>
  rw[hq,cond_true]at h
  obtain⟨b2,ti0,lf0,i,V',hx,cO,Vz,hi,NR,VB,fL⟩:=hM.k_ hq
  split at h
  case h_2=>cases h
  rename_i ti lf aaS
  obtain⟨aac,e1,e2⟩:=qjZ aaS
  rw[V']at e1
  obtain⟨rfl,rfl⟩:aac=ti0/\lf=lf0:=by injection e1 with e1;injection e1 with e1 e2;exact⟨e1.symm,e2.symm⟩
  obtain⟨D2,left,cnt,IA,Cl,hleft⟩:=NR
  rcases IA.next K ty with⟨_,hnone,hrun⟩|⟨key,val,kl,y,w',abX,hkey,hlk,CO,CK,hrun,VD,_,fE,hsz,vx⟩
  ·have kO:lf=[]:=by
    match lf,hleft with
    |[],_=>rfl
    |n::l,hleft=>
     have:=(hleft n).2 (by simp)
     rw[hnone]at this;cases this
   subst kO
   simp only at h
   refine⟨_,h,Kn (w':=w) (v:=.tuple #[.bool false]) (by simp[execOp,hx,hrun]) ⟨H,Φ,(hs.ah ue (av:=.cons (.val .bool false) .nil) (v:=.tuple #[.bool false]) ⟨.bool false,[],rfl,qi.bC _ _ _ _ _,rfl⟩).aL _,?_⟩⟩
   have ho:∀mm,(((s.ah dst (.cons (.val .bool false) .nil))).aL mm).obj=s.obj:=by intro mm;unfold St.ah;cases dst<;>rfl
   show uS P C _ _ _ _ _ _
   rw[ho]
   exact uS.step hM (λb hb _=>⟨hb,rfl⟩) (.inl rfl)
  ·obtain⟨n,rfl,rfl,hwf⟩:=Maps.keyOf_int_inv hk.int hkey
   have hmem:n∈lf:=(hleft n).1 hlk
   have h':(match bX m.kv n with
    |some v=>k (((s.af AV.aH).ah dst (.cons (.val .bool true) (.cons (DH n) (.cons (DH v) .nil)))).aL (some ⟨m.kt,m.vt,(m.aB dst).tm,m.kv,some (ti,oz n lf),some (n,v)⟩))
    |none=>none)=some r:=by
    split at h
    ·cases hmem
    ·exact Ui h n hmem
   obtain⟨v0,nW⟩:∃v0,bX m.kv n=some v0:=by
    cases hq:bX m.kv n with
    |none=>rw[hq]at h';cases h'
    |some v0=>exact⟨v0,rfl⟩
   rw[nW]at h'
   have hval:=CK (.lit (.int .i64 0))
   rw[Cl.val,nW]at hval
   simp only at hval
   obtain⟨y1,y2⟩:=y
   simp only at hval
   subst hval
   obtain⟨c,rfl,hc,_⟩:=plainElem_int_inv hv.int CO
   simp only[Prod.mk.injEq,DataW.lit.injEq,Lit.int.injEq,true_and]at hc
   obtain⟨rfl,_⟩:=hc
   have cH:=jO.lQ fE
   refine⟨_,h',Kn (w':=w') (v:=.tuple #[.bool true,.int .i64 n,.int .i64 v0]) (by simp[execOp,hx,hrun])
    ⟨H,Φ,((hs.other hi cH).ah ue (av:=.cons (.val .bool true) (.cons (DH n) (.cons (DH v0) .nil))) (v:=.tuple #[.bool true,.int .i64 n,.int .i64 v0])
     ⟨.bool true,[.int .i64 n,.int .i64 v0],rfl,qi.bC _ _ _ _ _,.int .i64 n,[.int .i64 v0],rfl,qi.bc _ _ _ _ _ _,.int .i64 v0,[],rfl,qi.bc _ _ _ _ _ _,rfl⟩).aL _,?_⟩⟩
   have ho:∀av mm,((((s.af AV.aH).ah dst av)).aL mm).obj=s.obj:=by intro av mm;unfold St.ah;cases dst<;>rfl
   show uS P C _ _ _ _ _ _
   rw[ho]
   refine⟨b2,hk,hv,cO.keep cH,⟨D2,VD.owns,Cl⟩,λt ht=>?_,?_⟩
   ·obtain⟨q1,q2⟩:=Zh ht
    rw[MR q2];exact Vz t q1
   ·rintro ti3 lf3 e
    cases e
    refine⟨i,hi.keep cH,⟨D2,_,abX,VD,Cl,λj=>?_⟩,λt ht=>?_,?_⟩
    ·rw[Bool.and_eq_true,hleft,HC]
     refine and_congr_right (λ_=>?_)
     constructor
     ·intro hs2 e
      subst e
      rw[WideAt.sameKey_self (K.key hkey)]at hs2
      cases hs2
     ·intro hne
      rw[Maps.sameKey_ne (TJ hne)];rfl
    ·obtain⟨q1,q2⟩:=e2 t ht
     rw[MR q2];exact VB t q1
    ·rintro n2 v2 e
     cases e
     exact vx
 ·-- entry
  rename_i x hop
  simp only at hop
  subst hop
  cases hq:Mx m x with
  |false=>rw[hq]at h;cases h
  |true=>
  rw[hq,cond_true]at h
  obtain⟨b2,ti0,lf0,i,V',hx,cO,Vz,hi,NR,VB,fL⟩:=hM.k_ hq
  split at h
  case h_2=>cases h
  rename_i n v hc
  have hrun:=fL n v hc
  exact⟨_,h,same (v:=.tuple #[.int .i64 n,.int .i64 v]) ⟨.int .i64 n,[.int .i64 v],rfl,qi.bc _ _ _ _ _ _,.int .i64 v,[],rfl,qi.bc _ _ _ _ _ _,rfl⟩ (by simp[execOp,hx,hrun])⟩
 ·-- a call
  rename_i c hop
  simp only at hop
  subst hop
  split at h
  ·-- len
   rename_i hc
   split at h
   case h_2=>cases h
   rename_i x T Cc Wx
   cases hq:vj m x&&decide (lk aa.maps T=some (m.kt,m.vt))with
   |false=>
    rw[hq,cond_false]at h
    have hst:jX ⟨dst,.call c,ty,pos,after,guard⟩=true:=by simp[jX,hc]
    exact Jl (by rw[hst];rfl) h
   |true=>
    rw[hq,cond_true]at h
    rw[Bool.and_eq_true]at hq
    have hx:=RI wO hq.1
    obtain⟨hT,_,_⟩:=ae.maps T _ _ (of_decide_eq_true hq.2)
    have hrun:=hown.len hT ty
    rw[hrel.size]at hrun
    have e2:c=⟨.builtin .len,#[x],#[T]⟩:=by
     obtain⟨c1,c2,c3⟩:=c
     simp only at hc Cc Wx
     rw[hc,<-Array.toArray_toList (xs:=c2),Cc,<-Array.toArray_toList (xs:=c3),Wx]
    subst e2
    exact⟨_,h,same (qi.bc w H Φ s.obj .i64 m.kv.length) (by simp[execOp,resolve,invoke,builtin,hx,hrun])⟩
  ·-- delete
   rename_i hc
   split at h
   case h_2=>cases h
   rename_i x i T T' Cc Wx
   cases hq:vj m x&&decide (lk aa.maps T=some (m.kt,m.vt))&&Nat.beq T' m.kt with
   |false=>rw[hq]at h;cases h
   |true=>
   rw[hq,cond_true]at h
   rw[Bool.and_eq_true,Bool.and_eq_true]at hq
   have hx:=RI wO hq.1.1
   have hT':=Nat.eq_of_beq_eq_true hq.2
   subst hT'
   obtain⟨hT,_,_⟩:=ae.maps T _ _ (of_decide_eq_true hq.1.2)
   split at h
   case h_2=>cases h
   rename_i n hn
   have hi:=Zo hs hn
   obtain⟨hwf,h⟩:=Zg h
   have hkey:=Maps.keyOf_int_mk hk.int hwf
   obtain⟨w',hrun,hown',tX⟩:=hown.drop K hT hkey ty
   have cH:=jO.lQ tX.grown
   have kB:=hrel.del (hown.tidy K) n
   have e2:c=⟨.builtin .delete,#[x,i],#[T,m.kt]⟩:=by
    obtain⟨c1,c2,c3⟩:=c
    simp only at hc Cc Wx
    rw[hc,<-Array.toArray_toList (xs:=c2),Cc,<-Array.toArray_toList (xs:=c3),Wx]
   subst e2
   refine⟨_,h,Kn (w':=w') (v:=.tuple #[]) (by simp[execOp,resolve,invoke,builtin,hx,hi,hrun]) ⟨H,Φ,((hs.other hb cH).ah ue (av:=.nil) (v:=.tuple #[]) rfl).aL _,?_⟩⟩
   have ho:∀mm,((((s.af AV.aH).ah dst .nil)).aL mm).obj=s.obj:=by intro mm;unfold St.ah;cases dst<;>rfl
   show uS P C _ _ _ _ _ _
   rw[ho]
   refine⟨b,hk,hv,hb.keep cH,⟨_,?_,kB⟩,λt ht=>?_,λti lf e=>by cases e⟩
   ·rw[<-kB.size]
    exact qgB hown'
   ·obtain⟨q1,q2⟩:=Zh ht
    rw[MR q2];exact wO t q1
  ·exact Jl rfl h
 ·rename_i x hop
  simp only at hop
  subst hop
  exact oH x (.inl rfl) h
 ·rename_i x hop
  simp only at hop
  subst hop
  exact oH x (.inr rfl) h
 ·exact Jl rfl h
end
end Go.Vi
namespace Go.Vi
def Kg(aa:jB)(o:Oper):Bool:=jX o||match o.op with
 |.call c=>match c.callee with
  |.value (.func f)=>match lk aa.b_ f with
   |some p=>TP p&&((lk aa.vI f).isNone&&(o.dst.bind (lk aa.inl)).isNone)
   |none=>false
  |_=>false
 |_=>false
section
variable {P:Program} {C:cM} {aa:jB} {R:Type} {r:R} {s:St} {a:Act} {w:World} {H:FH} {Φ:Nat->qH}
theorem UI(ae:qx P aa)(hC:qD C aa){o:Oper}{k:St->Option R}(hs:dS P C s a w)(hd:qK aa.nt o.dst=true)(hq:jX o=true)(h:qM aa o s k=some r):∃s',k s'=some r/\fG P C o a w s':=by
 obtain⟨H,Φ,hs⟩:=hs
 obtain⟨dst,op,ty,pos,after,guard⟩:=o
 cases op
 case move=>exact HW ae hC hs hd h
 case assign=>exact qot ae hC hs hd h
 case pick=>exact HU ae hC hs hd h
 case load=>exact HY ae hC hs hd h
 case nilCheck=>exact qlW ae hC hs hd h
 case binOp=>exact Bx ae hC hs hd h
 case unOp=>exact HR ae hC hs hd h
 case convert=>exact qnb ae hC hs hd h
 case fieldAddr=>exact qkU ae hC hs hd h
 case indexAddr=>exact qkT ae hC hs hd h
 case extract=>exact qna ae hC hs hd h
 case slice=>exact Bo ae hC hs hd h
 case lookup=>exact qoq ae hC hs hd h
 case entry=>exact Br hC hs hd h
 case build=>exact Bw ae hC hs hd h
 case typeAssert=>exact qfR ae hC hs hd h
 case makeFunc fn first aG=>
  cases fn
  case func f=>exact qlY ae hC hs hd h
  all_goals cases hq
 case call c=>
  simp only[jX]at hq
  split at hq
  ·rename_i hc;exact Ng ae hC hc hs hd h
  ·rename_i hc;exact Nf ae hC hc hs hd h
  ·rename_i hc;exact Nd ae hC hc hs hd h
  ·cases hq
 all_goals cases hq
theorem qmD(ae:qx P aa)(hC:qD C aa){o:Oper}{k:St->Option R}(hs:dS P C s a w)(hd:qK aa.nt o.dst=true)(hq:Kg aa o=true)(h:qM aa o s k=some r):∃s',k s'=some r/\Quiet P C o a w s':=by
 unfold Kg at hq
 cases hst:jX o with
 |true=>
  obtain⟨s',h1,h2⟩:=UI ae hC hs hd hst h
  exact⟨s',h1,h2.quiet⟩
 |false=>
  rw[hst,Bool.false_or]at hq
  obtain⟨H,Φ,hs⟩:=hs
  obtain⟨dst,op,ty,pos,after,guard⟩:=o
  cases op
  case call c=>
   simp only at hq
   split at hq
   ·rename_i f hc
    split at hq
    ·rename_i p hp
     rw[Bool.and_eq_true,Bool.and_eq_true]at hq
     exact Bv ae hC hc hp (Option.isNone_iff_eq_none.1 hq.2.2) (Option.isNone_iff_eq_none.1 hq.2.1) hq.1 hs hd h
    ·cases hq
   ·cases hq
  all_goals cases hq
theorem qnL(ae:qx P aa)(hC:qD C aa){o:Oper}{k:St->Option R}(hs:dS P C s a w)(hd:qK aa.nt o.dst=true)(h:qM aa o s k=some r):∃s',k s'=some r/\ew P C o a w s':=by
 cases hst:jX o with
 |true=>
  obtain⟨s',h1,h2⟩:=UI ae hC hs hd hst h
  exact⟨s',h1,h2.quiet.Oj⟩
 |false=>
 obtain⟨H,Φ,hs⟩:=hs
 obtain⟨dst,op,ty,pos,after,guard⟩:=o
 cases op
 case alloc=>exact By ae hC hs hd h
 case box=>exact Nh ae hC hs hd h
 case store=>exact Bn ae hC hs hd h
 case makeSlice=>exact qkS ae hC hs hd h
 case buildSlice=>exact qjR ae hC hs hd h
 case makeMap=>exact qm9 ae hC hs hd h
 case mapUpdate=>exact qgC ae hC hs hd (.inl rfl) h
 case insert=>exact qgC ae hC hs hd (.inr rfl) h
 case range=>exact Bq ae hC hs hd h
 case next=>exact HV ae hC hs hd h
 case makeInterface=>exact qhc ae hC hs hd h
 case typeAssert=>exact let⟨s',h1,h2⟩:=qfR ae hC hs hd h;⟨s',h1,h2.quiet.Oj⟩
 case call c=>
  match hc:c.callee with
  |.value f=>exact Bu ae hC hc hs hd h
  |.invoke _ _=>exact qop ae hC hc hs hd h
  |.builtin b=>
   cases b
   case append=>exact qou ae hC hc hs hd h
   case copy=>exact HZ ae hC hc hs hd h
   case clear=>exact Bt ae hC hc hs hd h
   case len=>simp[jX,hc]at hst
   case max=>simp[jX,hc]at hst
   case min=>simp[jX,hc]at hst
   all_goals simp[qM,hc]at h
 all_goals first|(simp[jX]at hst;done)|(simp only[qM]at h;cases h;done)|(rename_i fn _ _;cases fn<;>first|(simp[jX]at hst;done)|(simp only[qM]at h;cases h;done))
theorem qgo(ae:qx P aa)(hC:qD C aa){o:Oper}{k:St->Option R}(hs:qh P C s a w H Φ)(hd:qK aa.nt o.dst=true)(h:qM aa o s k=some r):∃s',k s'=some r/\(jX o=true->fG P C o a w s')/\ew P C o a w s':=by
 cases hst:jX o with
 |true=>
  obtain⟨s',h1,h2⟩:=UI ae hC ⟨H,Φ,hs⟩ hd hst h
  exact⟨s',h1,λ_=>h2,h2.quiet.Oj⟩
 |false=>
  obtain⟨s',h1,h2⟩:=qnL ae hC ⟨H,Φ,hs⟩ hd h
  exact⟨s',h1,(λe=>by cases e),h2⟩
theorem dS.aL(h:dS P C s a w)(m:Option Ms):dS P C (s.aL m) a w:=by obtain⟨H,Φ,h⟩:=h;exact⟨H,Φ,h.aL m⟩
theorem ZL(ae:qx P aa)(hC:qD C aa){o:Oper}{k:St->Option R}(hs:j1 P C s a w)(hd:qK aa.nt o.dst=true)(h:xM aa o s k=some r):∃s',k s'=some r/\uB P C o a w s':=by
 obtain⟨H,Φ,hs,hM⟩:=hs
 unfold xM at h
 split at h
 ·rename_i hmp
  split at h
  ·rename_i T hop
   split at h
   case h_2=>
    obtain⟨s',h1,_,h3⟩:=qgo ae (Rk hC) hs.jv hd h
    exact⟨_,h1,qhn hs hM h3 (.inl rfl)⟩
   rename_i d kt vt ud hT
   obtain⟨hu,hk,hv⟩:=ae.maps T kt vt hT
   have mG:d<C.nt:=by rw[ud]at hd;rw[hC.nt];exact Eq.mp Nat.blt_eq hd
   have cH:=Ko w (.map #[] 0)
   have hs2:=(hs.grow cH).set (d:=d) (av:=.dead) (v:=.map (some w.heap.size)) mG trivial
   have hrun:(execOp a.eval o).run P w = .ok (.value (.map (some w.heap.size))) (w.alloc (.map #[] 0)):=by
    obtain⟨dst,op,ty,pos,after,guard⟩:=o
    simp only at hop
    subst hop
    simp[execOp,RowKit.run_makeMap]
   refine⟨_,h,Kn hrun ?_⟩
   rw[ud]
   refine⟨H,Φ,hs2.aL _,w.heap.size,hk,hv,⟨?_,?_,.inr hs.mod.size,by simp⟩,⟨.map [],World.ownsMap_made _ _ _ _,AO.empty⟩,λt ht=>?_,λti lf e=>by cases e⟩
   ·cases hq:H w.heap.size with
    |none=>rfl
    |some c=>exact absurd (hs.hok.lt hq) (by omega)
   ·intro id o ho CI
    have:=((hs.os id o ho).2 _ CI).2.2
    omega
   ·rw[List.mem_singleton.1 ht]
    rw[Ze (by rw[hs.size];exact mG),if_pos rfl]
  ·obtain⟨s',h1,_,h3⟩:=qgo ae (Rk hC) hs.jv hd h
   exact⟨_,h1,qhn hs hM h3 (.inl rfl)⟩
 ·rename_i m hmp
  rw[hmp]at hM
  exact qmE ae hC (λhC' hs' dK h'=>qgo ae hC' hs' dK h') hs hmp hM hd h
theorem qfr(hmp:s.mp=none){o:Oper}(hq:Kg aa o=true){k:St->Option R}:xM aa o s k=qM aa o s λs'=>k (s'.aL none):=by
 unfold xM
 rw[hmp]
 simp only
 split
 ·rename_i hop
  simp[Kg,jX,hop]at hq
 ·rfl
theorem qh.Vl(hs:qh P C s a w H Φ){t:Nat}{av:AV}(hv:qi P C w H Φ s.obj av (a.tmps.getD t undef)):qh P C (s.set t av) a w H Φ:=by
 refine hs.weaken (λ_ _ h=>h) ?_
 intro u Xu hu
 rw[St.lj]at hu
 split at hu
 ·rename_i e;subst e;cases hu;exact hv
 ·exact hs.ts u Xu hu
theorem Ay(d:Option Nat):(s.skip d).obj=s.obj:=by unfold St.skip St.ah;cases d<;>rfl
theorem j1.dead(hC:qD C aa)(hs:j1 P C s a w){d:Option Nat}(hd:qK aa.nt d=true):j1 P C (s.skip d) (a.put d undef) w:=by
 obtain⟨H,Φ,hs,hM⟩:=hs
 refine⟨H,Φ,(hs.ah (by rw[hC.nt];exact hd) (av:=.nil) rfl).aL _,?_⟩
 rw[Ay]
 show uC P C (s.mp.map λm=>m.aB d) s.obj _ w H Φ
 cases hmp:s.mp with
 |none=>trivial
 |some m=>
  rw[hmp]at hM
  exact uS.step hM (λb hb _=>⟨hb,rfl⟩) (.inr ⟨rfl,rfl⟩)
theorem MJ{ops:Array Oper}{o:Oper}{rest:List Oper}{kk:St->Option R}(hs:j1 P C s a w)(h:ku aa ops kk (o::rest) s=some r):
  qK aa.nt o.dst=true/\((Region.wanted o (yielded ops a.tmps)=true/\∃s2,(j1 P C s2 a w/\(s.mp=none->s2.mp=none))/\xM aa o s2 (λs=>ku aa ops kk rest s)=some r)\/
   (Region.wanted o (yielded ops a.tmps)=false/\∃s2,(j1 P C s2 a w/\(s.mp=none->s2.mp=none))/\ku aa ops kk rest (s2.skip o.dst)=some r)):=by
 simp only[ku]at h
 cases hd:qK aa.nt o.dst with
 |false=>rw[hd]at h;cases h
 |true=>
 rw[hd,cond_true]at h
 refine⟨rfl,?_⟩
 unfold Region.wanted
 split at h
 ·rename_i hg
  rw[hg]
  exact .inl ⟨rfl,s,⟨hs,id⟩,h⟩
 ·rename_i j want hg
  rw[hg]
  split at h
  ·cases h
  ·rename_i t ht
   split at h
   ·rename_i b hb
    obtain⟨H,Φ,hs,hM⟩:=hs
    have hr:=hs.ts t _ hb
    have hv:=hr.bool
    have hy:yielded ops a.tmps j=some b:=by
     unfold yielded
     rw[ht]
     simp only[Option.bind_some]
     rw[Array.getD_eq_getD_getElem?]at hv
     cases hq:a.tmps[t]? with
     |none=>rw[hq]at hv;simp[undef]at hv
     |some u=>
      rw[hq]at hv
      simp only[Option.getD_some]at hv
      rw[hv]
    simp only[hy]
    have hs2:j1 P C (s.set t (.val .bool b)) a w/\(s.mp=none->(s.set t (.val .bool b)).mp=none):=⟨⟨H,Φ,hs.Vl hr,hM⟩,λh=>h⟩
    cases b with
    |true=>
     simp only[cond_true]at h
     cases want with
     |true=>exact .inl ⟨rfl,_,hs2,h⟩
     |false=>exact .inr ⟨rfl,_,hs2,h⟩
    |false=>
     simp only[cond_false]at h
     cases want with
     |true=>exact .inr ⟨rfl,_,hs2,h⟩
     |false=>exact .inl ⟨rfl,_,hs2,h⟩
   ·rename_i hb
    obtain⟨H,Φ,hs,hM⟩:=hs
    have hv:a.tmps.getD t undef = .tuple #[]:=hs.ts t _ hb
    have hy:yielded ops a.tmps j=none:=by
     unfold yielded
     rw[ht]
     simp only[Option.bind_some]
     rw[Array.getD_eq_getD_getElem?]at hv
     cases hq:a.tmps[t]? with
     |none=>rfl
     |some u=>
      rw[hq]at hv
      simp only[Option.getD_some]at hv
      rw[hv]
    simp only[hy]
    exact .inr ⟨by simp,s,⟨⟨H,Φ,hs,hM⟩,id⟩,h⟩
   ·cases h
theorem qe4{o:Oper}{s':St}{K:Act->World->Prop}{Q:Exit->Act->World->Prop}(h:uB P C o a w s')(hK:∀a w,j1 P C s' a w->K a w):o.wp P a w K Q:=by
 unfold uB at h
 unfold Oper.wp Oper.upon
 split at h
 ·rename_i v w' e;rw[e];exact hK _ _ h
 ·rename_i w' e;rw[e];exact hK _ _ h
 ·rename_i f args w' e
  rw[e]
  refine h.mono ?_
  rintro e w'' ⟨v,rfl,bE⟩
  exact hK _ _ bE
 ·exact h.elim
theorem YD(ae:qx P aa)(hC:qD C aa){ops:Array Oper}{kk:St->Option R}{Q:Exit->Act->World->Prop}(hQ:∀s a w,j1 P C s a w->kk s=some r->Q .normal a w):
  ∀{l:List Oper} {s:St} {a:Act} {w:World},j1 P C s a w->ku aa ops kk l s=some r->wpList P ops Q l a w
 |[],s,a,w,hs,h=>hQ s a w hs h
 |o::rest,s,a,w,hs,h=>by
  obtain⟨hd,h⟩:=MJ hs h
  unfold wpList
  rcases h with⟨hw,s2,⟨hs2,_⟩,h⟩|⟨hw,s2,⟨hs2,_⟩,h⟩
  ·rw[hw,if_pos rfl]
   obtain⟨s',h,hg⟩:=ZL ae hC hs2 hd h
   exact .inl (qe4 hg (λa w hs=>YD ae hC hQ hs h))
  ·rw[hw,if_neg (by simp)]
   exact YD ae hC hQ (hs2.dead hC hd) h
theorem qhb(ae:qx P aa)(hC:qD C aa){ops:Array Oper}{kk:St->Option R}{K:Act->Prop}(hK:∀s a,dS P C s a w->s.mp=none->kk s=some r->K a):
  ∀{l:List Oper} {s:St} {a:Act},l.all (Kg aa)=true->dS P C s a w->s.mp=none->ku aa ops kk l s=some r->wpQuiet P ops (jO jA w) K l a
 |[],s,a,_,hs,hmp,h=>hK s a hs hmp h
 |o::rest,s,a,hq,hs,hmp,h=>by
  simp only[List.all_cons,Bool.and_eq_true]at hq
  obtain⟨hd,h⟩:=MJ (hs.nM hmp) h
  unfold wpQuiet
  rcases h with⟨hw,s2,⟨hs2,sg⟩,h⟩|⟨hw,s2,⟨hs2,sg⟩,h⟩
  ·rw[hw,if_pos rfl]
   rw[qfr (sg hmp) hq.1]at h
   obtain⟨s',h,v,hv,bE⟩:=qmD ae hC hs2.pM hd hq.1 h
   exact⟨v,hv,qhb ae hC hK hq.2 (bE.aL none) rfl h⟩
  ·rw[hw,if_neg (by simp)]
   exact qhb ae hC hK hq.2 (hs2.dead hC hd).pM (by show Option.map _ _=none;rw[sg hmp];rfl) h
theorem qeo{o:Oper}(h:jX o=true):Kg aa o=true:=by unfold Kg;rw[h];rfl
theorem Zr(ae:qx P aa)(hC:qD C aa){ops:Array Oper}{kk:St->Option R}{K:Act->Prop}{l2:List Oper}(hK:∀s a,dS P C s a w->s.mp=none->ku aa ops kk l2 s=some r->K a):
  ∀{l:List Oper} {s:St} {a:Act},l.all jX=true->dS P C s a w->s.mp=none->ku aa ops kk (l++l2) s=some r->wpStill P ops w K l a
 |[],s,a,_,hs,hmp,h=>hK s a hs hmp h
 |o::rest,s,a,hq,hs,hmp,h=>by
  simp only[List.all_cons,Bool.and_eq_true]at hq
  obtain⟨hd,h⟩:=MJ (hs.nM hmp) h
  unfold wpStill
  rcases h with⟨hw,s2,⟨hs2,sg⟩,h⟩|⟨hw,s2,⟨hs2,sg⟩,h⟩
  ·rw[hw,if_pos rfl]
   rw[qfr (aa:=aa) (sg hmp) (qeo hq.1)]at h
   obtain⟨s',h,v,hv,bE⟩:=UI ae hC hs2.pM hd hq.1 h
   unfold Oper.still
   rw[hv w (jO.refl _ _)]
   exact⟨rfl,Zr ae hC hK hq.2 (bE.aL none) rfl h⟩
  ·rw[hw,if_neg (by simp)]
   exact Zr ae hC hK hq.2 (hs2.dead hC hd).pM (by show Option.map _ _=none;rw[sg hmp];rfl) h
def xb(aa:jB)(ops:Array Oper):Bool:=
 (ops.toList.all (Kg aa)&&Region.lexB .any ops)||(List.range ops.size).any λn=>(ops.toList.take n).all jX&&Region.lexTailB .any ops n
theorem Gm(w:World):jO jA w {w with drawn:=w.drawn+1}:=⟨rfl,rfl,rfl,Nat.le_refl _,λ_ _ _=>rfl⟩
theorem qoj(hm:P.follows .mixedOrders=true)(ae:qx P aa)(hC:qD C aa){id:Nat}{ops:Array Oper}{draw:Bool}(Wl:draw=true->xb aa ops=true/\s.mp=none){kk:St->Option R}{Q:Exit->Act->World->Prop}(hQ:∀s a w,j1 P C s a w->kk s=some r->Q .normal a w)
  (hs:j1 P C s a w) (h:ku aa ops kk ops.toList s=some r):(Code.region id ops draw).wp P Q a w:=by
 cases draw with
 |false=>exact wp_region_list (YD ae hC hQ hs h)
 |true=>
  obtain⟨hd,hmp⟩:=Wl rfl
  unfold xb at hd
  rw[Bool.or_eq_true]at hd
  have hs1:dS P C s a {w with drawn:=w.drawn+1}:=hs.pM.grow (Gm w)
  rcases hd with hd|hd
  ·rw[Bool.and_eq_true]at hd
   exact wp_region_quiet (C:=jO jA {w with drawn:=w.drawn+1}) hm hd.2 (jO.refl _ _)
    (qhb ae hC (λs a bE hmp hk w' hm'=>hQ s a w' ((bE.grow hm').nM hmp) hk) hd.1 hs1 hmp h)
  ·obtain⟨n,_,hn⟩:=List.any_eq_true.1 hd
   rw[Bool.and_eq_true]at hn
   have:=wp_region_still_tail (P:=P) (id:=id) (Q:=Q) (a:=a) (w:=w) (l:=ops.toList) n hm (by simpa using hn.2)
    (by
     simp only[Array.toArray_toList]
     exact Zr ae hC (l2:=ops.toList.drop n) (λs a bE hmp hk=>YD ae hC hQ (bE.nM hmp) hk) hn.1 hs1 hmp (by rw[List.take_append_drop];exact h))
   simpa using this
theorem DJ(ae:qx P aa)(hC:qD C aa){ops:Array Oper}{K:Act->World->Prop}{kk:St->Option R}{Q:Exit->Act->World->Prop}{i:Nat}(hK:∀s a w,j1 P C s a w->kk s=some r->K a w)
  (hs:j1 P C s a w) (h:ku aa ops kk (FX ops i) s=some r):wpOp P ops Q i K a w:=by
 unfold wpOp
 unfold FX at h
 cases ho:ops[i]? with
 |none=>rw[ho]at h;exact hK _ _ _ hs h
 |some o=>
  rw[ho]at h
  obtain⟨hd,h⟩:=MJ hs h
  rcases h with⟨hw,s2,⟨hs2,_⟩,h⟩|⟨hw,s2,⟨hs2,_⟩,h⟩
  ·simp only[hw,if_true]
   obtain⟨s',h,hg⟩:=ZL ae hC hs2 hd h
   exact .inl (qe4 hg (λa w hs=>hK _ _ _ hs h))
  ·simp only[hw]
   exact hK _ _ _ (hs2.dead hC hd) h
theorem j1.le(hs:j1 P C s a w):cI C.H0 w:=by
 obtain⟨H,Φ,h,_⟩:=hs
 exact λb c hb=>h.hok b c (h.le b c hb)
theorem qh.GY(hs:qh P C s a w H Φ)(hm:s.mp=none):j1 P (uz C w H s.obj Φ) s a w:=⟨H,Φ,hs.jv,by rw[hm];trivial⟩
theorem qh.GK{s':St}{a':Act}{w':World}(hs:qh P C s a w H Φ)(h:j1 P (uz C w H s.obj Φ) s' a' w'):j1 P C s' a' w':=by
 obtain⟨H',aU,h,hM⟩:=h
 refine⟨H',aU,(hs.eH h).1,?_⟩
 have hmay:∀b,ei (uz C w H s.obj Φ) w' H' aU s'.obj b->ei C w' H' aU s'.obj b:=by
  intro b hb
  refine⟨hb.fz,hb.obj,?_,hb.lt⟩
  rcases hb.may with h1|h1
  ·exact h1.1
  ·exact .inr (Nat.le_trans hs.mod.size h1)
 unfold uC at hM ⊢
 cases hmp:s'.mp with
 |none=>trivial
 |some m=>
  rw[hmp]at hM
  obtain⟨b,q1,q2,q3,q4,q5,q6⟩:=hM
  refine⟨b,q1,q2,hmay _ q3,q4,q5,λti lf e=>?_⟩
  obtain⟨i,k1,k2⟩:=q6 ti lf e
  exact⟨i,hmay _ k1,k2⟩
theorem qfO{ops:Array Oper}{Q:Exit->Act->World->Prop}{S S':World->Prop}(hS:∀w,S' w->S w):∀(n:Nat) (listed:Array Bool) (a:Act) (w:World),wpAnyH P .any ops Q S' n listed a w->wpAnyH P .any ops Q S n listed a w
 |0,_,_,_,h=>h
 |n+1,_,_,_,h=>⟨h.1,λi hi=>wpOp_mono (λa' w' h'=>⟨hS _ h'.1,qfO hS n _ a' w' h'.2⟩) (h.2 i hi)⟩
theorem Kc{ops:Array Oper}:∀{l dec:List Nat} {s:St} {k:List Nat->St->Option R},j1 P C s a w->og ops l dec s k=some r->∃abU s',j1 P C s' a w/\k abU s'=some r
 |[],dec,s,k,hs,h=>⟨dec,s,hs,h⟩
 |i::l,dec,s,k,hs,h=>by
  unfold og at h
  split at h
  ·exact Kc hs h
  ·rename_i j want _
   cases hj:nP j dec with
   |true=>rw[hj]at h;exact Kc hs h
   |false=>
   rw[hj,cond_false]at h
   split at h
   ·exact Kc hs h
   ·rename_i t _
    split at h
    ·rename_i b hb
     obtain⟨H,Φ,hs,hM⟩:=hs
     have hr:=hs.ts t _ hb
     have hs2:j1 P C (s.set t (.val .bool b)) a w:=⟨H,Φ,hs.Vl hr,hM⟩
     cases b with
     |true=>exact Kc hs2 h
     |false=>exact Kc hs2 h
    ·exact Kc hs h
    ·exact Kc hs h
theorem qnu{ops:Array Oper}{o:Oper}{v:Bool}(hs:qh P C s a w H Φ)(h:YR ops s o.guard=some v):Region.wanted o (yielded ops a.tmps)=v:=by
 unfold Region.wanted
 cases hg:o.guard with
 |none=>rw[hg]at h;simp only[YR]at h;cases h;rfl
 |some q=>
  obtain⟨j,want⟩:=q
  rw[hg]at h
  simp only[YR]at h
  split at h
  ·cases h
  ·rename_i t ht
   split at h
   ·rename_i b hb
    cases h
    have hv:=(hs.ts t _ hb).bool
    have hy:yielded ops a.tmps j=some b:=by
     unfold yielded
     rw[ht]
     simp only[Option.bind_some]
     rw[Array.getD_eq_getD_getElem?]at hv
     cases hq:a.tmps[t]? with
     |none=>rw[hq]at hv;simp[undef]at hv
     |some u=>
      rw[hq]at hv
      simp only[Option.getD_some]at hv
      rw[hv]
    simp only[hy]
    cases b<;>cases want<;>rfl
   ·rename_i hb
    cases h
    have hv:a.tmps.getD t undef = .tuple #[]:=hs.ts t _ hb
    have hy:yielded ops a.tmps j=none:=by
     unfold yielded
     rw[ht]
     simp only[Option.bind_some]
     rw[Array.getD_eq_getD_getElem?]at hv
     cases hq:a.tmps[t]? with
     |none=>rfl
     |some u=>
      rw[hq]at hv
      simp only[Option.getD_some]at hv
      rw[hv]
    simp only[hy]
    simp
   ·cases h
theorem qlD(ae:qx P aa)(hs:qh P C s a w H Φ){o:Oper}(h:qiA aa s o.op=true):∃v,∀w',cI H w'->(execOp a.eval o).run P w' = .ok (.value v) w':=by
 obtain⟨dst,op,ty,pos,after,guard⟩:=o
 unfold qiA at h
 split at h
 ·rename_i x hop
  simp only at hop
  subst hop
  exact⟨a.eval x,λw' _=>by simp[execOp]⟩
 ·rename_i T x hop
  simp only at hop
  subst hop
  split at h
  case h_3=>cases h
  ·rename_i σ y he
   obtain⟨a_,_⟩:=ae.ty T _ (of_decide_eq_true h)
   obtain⟨hfz,b,o,blk,hv,hH,an⟩:=ql hs qy he
   refine⟨j7 σ (ct blk o σ.size),λw' iX=>?_⟩
   obtain⟨t,f,hb⟩:=cI.cells iX hH
   simp[execOp,hv,RR a_ hb (qm.length σ an)]
  ·rename_i i f n he
   simp only[Bool.and_eq_true]at h
   obtain⟨q1,q2,q3⟩:=h
   obtain rfl:=Nat.eq_of_beq_eq_true q1
   have q2:=Nat.eq_of_beq_eq_true q2
   obtain⟨b,cv,h1,⟨h2,h3⟩,hv⟩:=ql hs qy he
   obtain⟨σ,hT⟩:∃σ,lk aa.ty T=some (.ptr σ):=by
    unfold Ub at q3
    split at q3
    ·exact⟨_,by assumption⟩
    ·cases q3
   obtain⟨a_,hfz⟩:=ae.ty T _ hT
   rw[q2]at h2
   obtain⟨u,rfl⟩:∃u,cv=[u]:=by
    match cv,h2 with
    |[u],_=>exact⟨u,rfl⟩
   refine⟨j7 (.ptr σ) [u],λw' iX=>?_⟩
   obtain⟨t,f',hb⟩:=iX b _ h1
   have:=RR a_ (o:=0) hb rfl
   have gl:a.eval x = .pointer (some ⟨b,0,none⟩):=hv
   simp[execOp,gl,this]
   rfl
 ·rename_i T x j hop
  simp only at hop
  subst hop
  split at h
  case h_3=>cases h
  ·rename_i σ y t' he hT
   obtain⟨a_,abp⟩:=ae.ty T _ hT
   obtain⟨fs,hu,CB⟩:=a_.str
   obtain⟨f,σ',q1,q2,q3,q4,q5,q6,q7⟩:=CB.at t' h
   obtain⟨hfz,b,o,blk,hv,hH,an⟩:=ql hs qy he
   refine⟨.pointer (some ⟨b,o+f.offset,none⟩),λw' _=>?_⟩
   simp[execOp,hv,ZJ hu q1 q3]
  ·rename_i i p t' he hT
   obtain⟨a_,abp⟩:=ae.ty T _ hT
   obtain⟨fs,hu,CB⟩:=a_.str
   obtain⟨f,σ',q1,q2,q3,q4,q5,q6,q7⟩:=CB.at t' h
   obtain⟨ob,y,b,o,_,_,_,_,hv⟩:=ql hs qy he
   refine⟨.pointer (some ⟨b,o+f.offset,none⟩),λw' _=>?_⟩
   simp[execOp,hv,ZJ hu q1 q3]
 ·rename_i x hop
  simp only at hop
  subst hop
  split at h
  case h_3=>cases h
  ·rename_i σ y he
   obtain⟨_,b,off,blk,hv,_⟩:=ql hs qy he
   exact⟨a.eval x,λw' _=>by simp[execOp,hv]⟩
  ·rename_i i p he
   obtain⟨o,y,b,off,_,_,_,_,hv⟩:=ql hs qy he
   exact⟨a.eval x,λw' _=>by simp[execOp,hv]⟩
 ·rename_i x i hop
  simp only at hop
  subst hop
  split at h
  case h_3=>cases h
  ·rename_i b c he
   obtain⟨u,us,hv,_,_⟩:=ql hs qy he
   exact⟨u,λw' _=>by simp[execOp,hv,Instr.extract]⟩
  ·rename_i b c d he
   obtain⟨u,us,hv,_,u2,us2,fV,_,_⟩:=ql hs qy he
   obtain rfl:us=u2::us2:=by simpa using fV
   exact⟨u2,λw' _=>by simp[execOp,hv,Instr.extract]⟩
 ·rename_i T x y T' hop
  simp only at hop
  subst hop
  split at h
  case h_2=>cases h
  rename_i i m j n h1 h2
  have v1:=(ql hs qy h1).int
  have v2:=(ql hs qy h2).int
  have hij:i=j:=by simpa using h
  subst hij
  exact⟨_,λw' _=>by simp[execOp,v1,v2,eqGuard,binOp,Op.intArith];rfl⟩
 ·rename_i T x y T' hop
  simp only at hop
  subst hop
  split at h
  case h_2=>cases h
  rename_i i m j n h1 h2
  have v1:=(ql hs qy h1).int
  have v2:=(ql hs qy h2).int
  have hij:i=j:=by simpa using h
  subst hij
  exact⟨_,λw' _=>by simp[execOp,v1,v2,eqGuard,binOp,Op.intArith];rfl⟩
 ·rename_i x T hop
  simp only at hop
  subst hop
  split at h
  case h_2=>cases h
  rename_i o2 tid e l he
  obtain⟨n,_,ad,cap,hv⟩:=qmc (f:=λn=>some n) (r:=List.length l) hs (ql hs qy he) rfl
  obtain⟨own,tid,e,hlk⟩:∃own tid e,lk aa.ty T=some (.list own tid e):=by
   unfold Ht at h
   split at h
   ·exact⟨_,_,_,‹_›⟩
   ·cases h
  have hu:=(ae.ty T _ hlk).1.list.1
  exact⟨goInt n,λw' _=>by simp[execOp,resolve,invoke,builtin,Builtin.len_,hv,run_underlying hu,goInt]⟩
 ·cases h
theorem qlH(ae:qx P aa)(hs:qh P C s a w H Φ){o:Oper}{K:St->Option R}(h:Zc aa s o=true)(hm:s.mp=none)(ho:xM aa o s K=some r):∃v,∀w',(execOp a.eval o).run P w' = .ok (.value v) w':=by
 obtain⟨dst,op,ty,pos,after,guard⟩:=o
 unfold Zc at h
 split at h
 case h_2=>cases h
 rename_i T x y hop _ fc
 simp only at hop fc
 subst hop
 split at h
 case h_2=>cases h
 rename_i tid e l he
 split at h
 case h_2=>cases h
 rename_i k1 j hy
 have hT:=of_decide_eq_true h
 obtain⟨a_,hfz⟩:=ae.ty T _ hT
 unfold xM at ho
 rw[hm]at ho
 simp only[qM,fe,fc]at ho
 unfold YX at ho
 have hj:Mr s (some y)=some (some j):=by unfold Mr;simp only[hy];rfl
 rw[he,hj]at ho
 simp only[Mr,qmR,hT,Bool.not_false,Bool.true_and,decide_true,cond_true]at ho
 obtain⟨h0,ho⟩:=vm ho
 obtain⟨h1,ho⟩:=vm ho
 obtain⟨hf,cs,hv,an⟩:=ql hs qy he
 obtain⟨_,ad,cap,rfl,hcap,_⟩:=an
 have gl:a.eval x = .slice ad (List.length l) cap:=by rw[hv];rfl
 have hy':=(ql hs qy hy).int
 refine⟨.slice (if cap=0 then ad else ad.map (·.add (0*e.size))) (j.toNat-0) (cap-0),λw'=>?_⟩
 have:=ZE a_.list.1 a_.list.2 ad (List.length l) cap none (some j) 0 j.toNat rfl (by simp;omega) (by omega) (by omega) w' .i64 k1
 simp only[execOp,gl,hy',Option.map_none,Option.map_some]at this ⊢
 simp[this]
theorem qnD{τ:Option Ty}{x:Operand}{id:Nat}{p:List qu}(h:qQ s none x=some (.view id p)):qQ s τ x=some (.view id p):=by
 cases x with
 |tmp t=>exact h
 |const v=>cases v<;>simp only[qQ,TZ]at h<;>(first|cases h|(split at h<;>cases h))
 |func f=>cases h
 |global g=>cases h
theorem qow(ae:qx P aa)(hs:qh P C s a w H Φ){o:Oper}{K:St->Option R}(h:YI s o=true)(hm:s.mp=none)(ho:xM aa o s K=some r):∃v,∀w',(execOp a.eval o).run P w' = .ok (.value v) w':=by
 obtain⟨dst,op,ty,pos,after,guard⟩:=o
 unfold YI at h
 split at h
 case h_3=>cases h
 case h_2=>
  rename_i x hop _
  simp only at hop
  subst hop
  unfold xM at ho
  rw[hm]at ho
  simp only[qM]at ho
  split at h
  case h_2=>cases h
  rename_i i p he
  have he':=qnD (τ:=lk aa.ty ty) he
  rw[he']at ho
  obtain⟨g,hv,_⟩:=qkb hs (ql hs qy he) ho
  exact⟨_,λw'=>by simp only[execOp,hv];rfl⟩
 rename_i T x ix hop _
 simp only at hop
 subst hop
 unfold xM at ho
 rw[hm]at ho
 simp only[qM]at ho
 split at ho
 case h_2=>cases ho
 rename_i av i he hi
 rw[he]at h
 have hr:=ql hs qy he
 obtain⟨iav,NS,hi2⟩:=Option.bind_eq_some_iff.1 hi
 obtain⟨ik,zz⟩:=Uk hi2 (ql hs qy NS)
 unfold qgg at ho
 split at h
 ·rename_i o1 tid e l vy
  cases vy
  simp only at ho
  cases hT:decide (lk aa.ty T=some (.list false tid e.fz))with
  |false=>rw[hT]at ho;cases ho
  |true=>
   rw[hT,cond_true]at ho
   obtain⟨a_,_⟩:=ae.ty T _ (of_decide_eq_true hT)
   obtain⟨h0,y,hy,_⟩:=j5 ho
   obtain⟨hf,cs,hv,an⟩:=hr
   simp only[Ty.ay,Bool.and_eq_true,Bool.not_eq_true']at hf
   obtain⟨rfl,oO⟩:=hf
   rw[Ty.bf e oO]at a_
   obtain⟨_,ad,cap,rfl,hcap,hl⟩:=an
   have hlt:=(List.getElem?_eq_some_iff.1 hy).1
   rcases hl with rfl|⟨b,o,blk,rfl,hH,hch⟩
   ·simp at hlt
   ·have gl:a.eval x = .slice (some ⟨b,o,none⟩) (List.length l) cap:=by rw[hv];rfl
    exact⟨.pointer (some ⟨b,o+i.toNat*e.size,none⟩),λw'=>by
     simp[execOp,gl,zz,ZQ a_.list.1 a_.list.2 h0 (show i<(List.length l:Int) by omega)]⟩
 ·rename_i n e l vy
  cases vy
  simp only at ho
  cases hT:decide (lk aa.ty T=some (.arr n e))with
  |false=>rw[hT]at ho;cases ho
  |true=>
   rw[hT,cond_true]at ho
   obtain⟨a_,_⟩:=ae.ty T _ (of_decide_eq_true hT)
   obtain⟨u,hu,Vy⟩:=a_.arr
   obtain⟨h0,y,hy,_⟩:=j5 ho
   have hlt:=(List.getElem?_eq_some_iff.1 hy).1
   obtain⟨hf,b,o,blk,hv,hH,Gy,hch⟩:=hr
   exact⟨.pointer (some ⟨b,o+i.toNat*e.size,none⟩),λw'=>by
    simp[execOp,hv,zz,qc2 hu Vy h0 (show i<(n:Int) by rw[<-Gy];omega)]⟩
 ·rename_i id p vy
  cases vy
  simp only at ho
  split at ho
  case h_2=>cases ho
  rename_i o bF
  rw[jJ]at ho
  obtain⟨⟨σ,y⟩,hy,ho⟩:=Option.bind_eq_some_iff.1 ho
  simp only at ho
  split at ho
  case h_2=>cases ho
  rename_i own tid e l
  cases hT:own&&(decide (lk aa.ty T=some (.list false tid e.fz)))with
  |false=>rw[hT]at ho;cases ho
  |true=>
   rw[hT,cond_true]at ho
   rw[Bool.and_eq_true]at hT
   obtain⟨rfl,hT⟩:=hT
   obtain⟨a_,_⟩:=ae.ty T _ (of_decide_eq_true hT)
   have my:=qT.gw (τ:=.list false tid e) a_
   obtain⟨h0,hlt,_⟩:=qji ho
   obtain⟨cs,fp,hv,an,_⟩:=wA hr bF (hs.os id _ bF).1 hy
   obtain⟨ax,xs,aC,rfl,e2,how,hch⟩:=an
   rcases how.2 with⟨_,hz⟩|⟨g,cap,cur,uK,_⟩
   ·have hz:List.length l=0:=hz
    omega
   ·have gl:a.eval x = .slice (some ⟨g,0,none⟩) (List.length l) cap:=by rw[hv,uK];rfl
    exact⟨.pointer (some ⟨g,0+i.toNat*e.size,none⟩),λw'=>by
     simp[execOp,gl,zz,ZQ my.list.1 my.list.2 h0 (show i<(List.length l:Int) by omega)]⟩
 ·cases h
theorem qox(ae:qx P aa)(hC:qD C aa){ops:Array Oper}{listed:Array Bool}{dec:List Nat}{K:Act->World->Prop}{kk:St->Option R}{i:Nat}(hK:∀s a w,j1 P C s a w->kk s=some r->K a w)
  (hp:Rh aa ops listed dec s i=true) (hs:qh P C s a w H Φ) (hM:uC P C s.mp s.obj a w H Φ) (h:ku aa ops kk (FX ops i) s=some r):∃o v,ops[i]? = some o/\Region.free .any ops listed i=true/\YieldsIf P ops (cI H) o v a/\K (a.put o.dst v) w:=by
 unfold Rh at hp
 split at hp
 case h_2=>cases hp
 rename_i o ho
 rw[Bool.and_eq_true,Bool.and_eq_true,Bool.and_eq_true]at hp
 obtain⟨hmp,_,hf,hp⟩:=hp
 unfold FX at h
 rw[ho]at h
 have h0:=h
 obtain⟨hd,Lf⟩:=MJ ⟨H,Φ,hs,hM⟩ h
 split at hp
 case h_2=>cases hp
 rename_i v hg
 have hw:=qnu (o:=o) hs hg
 cases v with
 |false=>
  rcases Lf with⟨iX,_⟩|⟨_,s2,⟨hs2,_⟩,h⟩
  ·rw[hw]at iX;cases iX
  ·exact⟨o,undef,ho,hf,.inr ⟨hw,rfl⟩,hK _ _ _ (hs2.dead hC hd) h⟩
 |true=>
  rcases Lf with⟨_,s2,⟨hs2,_⟩,h⟩|⟨iX,_⟩
  ·obtain⟨v,hrun⟩:∃v,∀w',cI H w'->(execOp a.eval o).run P w' = .ok (.value v) w':=by
    rw[cond_true,Bool.or_eq_true,Bool.or_eq_true]at hp
    rcases hp with hp|hp|hp
    ·exact qlD ae hs hp
    rotate_left
    ·have KY:o.guard=none:=by
      unfold YI at hp
      split at hp
      ·rename_i e;exact e
      ·rename_i e;exact e
      ·cases hp
     have h3:=h0
     simp only[ku,hd,cond_true,KY]at h3
     obtain⟨v,hv⟩:=qow ae hs hp (Option.isNone_iff_eq_none.1 hmp) h3
     exact⟨v,λw' _=>hv w'⟩
    ·have KY:o.guard=none:=by
      unfold Zc at hp
      split at hp
      ·rename_i e _;exact e
      ·cases hp
     have h3:=h0
     simp only[ku,hd,cond_true,KY]at h3
     obtain⟨v,hv⟩:=qlH ae hs hp (Option.isNone_iff_eq_none.1 hmp) h3
     exact⟨v,λw' _=>hv w'⟩
   refine⟨o,v,ho,hf,.inl ⟨hw,hrun⟩,?_⟩
   obtain⟨s',h,CA⟩:=ZL ae hC hs2 hd h
   have:=qe4 (K:=K) (Q:=λ_ _ _=>True) CA (λa w hs=>hK _ _ _ hs h)
   unfold Oper.wp Oper.upon at this
   rw[hrun w hs.hok]at this
   exact this
  ·rw[hw]at iX;cases iX
def RO{α:Type}(m:Sem α):Prop:=∀(P:Program) (w:World) (x:α) (w':World),m.run P w = .ok x w'->w'=w
def su{α:Type}(m:Sem α):Prop:=∀(P:Program) (w:World) (x:α) (w':World),m.run P w = .ok x w'->False
theorem su.ro{α:Type}{m:Sem α}(h:su m):RO m:=λP w x w' e=>(h P w x w' e).elim
theorem RO.pure{α:Type}(x:α):RO (Pure.pure x:Sem α):=λP w y w' e=>by
 rw[Sem.run_pure]at e
 cases e
 rfl
theorem RO.bind{α β:Type}{m:Sem α}{f:α->Sem β}(h1:RO m)(h2:∀x,RO (f x)):RO (m >>= f):=λP w y w' e=>by
 rw[Sem.run_bind]at e
 cases h:m.run P w with
 |ok x w1=>
  rw[h]at e
  exact(h2 x P w1 y w' e).trans (h1 P w x w1 h)
 |halt a b=>rw[h]at e;cases e
theorem su.bind{α β:Type}{m:Sem α}{f:α->Sem β}(h2:∀x,su (f x)):su (m >>= f):=λP w y w' e=>by
 rw[Sem.run_bind]at e
 cases h:m.run P w with
 |ok x w1=>rw[h]at e;exact h2 x P w1 y w' e
 |halt a b=>rw[h]at e;cases e
theorem su.halt{α:Type}(h:Halt):su (.halt h:Sem α):=λP w x w' e=>by cases e
theorem qiN:RO Go.program:=λP w x w' e=>by cases e;rfl
theorem qnT(a:Addr)(m:Mode):RO (Go.load a m):=λP w x w' e=>by
 unfold Go.load Sem.run at e
 split at e
 ·cases e;rfl
 ·split at e
  ·cases e;rfl
  ·cases e
theorem qfQ(t:TypeId):RO (Go.underlying t):=by
 unfold Go.underlying
 refine RO.bind qiN λp=>?_
 split
 ·exact RO.pure _
 ·exact(su.halt _).ro
theorem qlP(t:TypeId):RO (Go.typeInfo t):=by
 unfold Go.typeInfo
 refine RO.bind qiN λp=>?_
 split
 ·exact RO.pure _
 ·exact(su.halt _).ro
theorem qj6(t:TypeId):RO (Go.sizeOf t):=RO.bind (qlP t) λ_=>RO.pure _
theorem AH(t:TypeId):RO (Go.isAgg t):=by
 unfold Go.isAgg
 refine RO.bind (qfQ t) λd=>?_
 split<;>exact RO.pure _
theorem qej(a:Addr):∀(n i:Nat) (acc:Array Value),RO (Go.loadCellsFrom a i n acc)
 |0,_,_=>RO.pure _
 |n+1,i,_acc=>RO.bind (qnT _ _) λ_v=>qej a n (i+1) _
theorem qmX(t:TypeId)(a:Addr):RO (Go.loadVar t a):=by
 unfold Go.loadVar
 refine RO.bind (AH t) λb=>?_
 split
 ·exact RO.bind (qj6 t) λn=>RO.bind (qej a _ _ _) λ_=>RO.pure _
 ·exact qnT _ _
theorem qhI(v:Value):RO (Instr.sureAddr v):=by
 unfold Instr.sureAddr
 split
 ·exact RO.pure _
 ·exact(su.halt _).ro
theorem qmZ(v:Value):RO (Go.asIntOf v):=by
 unfold Go.asIntOf
 split
 ·exact RO.pure _
 ·exact(su.halt _).ro
 ·exact(su.halt _).ro
theorem qib{α:Type}(k:IntKind)(x y:Int)(c:BoundsCode):su (Go.boundsPanic k x y c:Sem α):=by
 unfold Go.boundsPanic
 have h:∀e:RuntimeError,(∃a b c d,e = .bounds a b c d)->su (Go.runtimePanic e:Sem α):=by
  rintro _ ⟨a,b,c,d,rfl⟩
  unfold Go.runtimePanic
  exact su.bind λp=>su.halt _
 dsimp only
 split<;>exact su.bind λs=>h _ ⟨_,_,_,_,rfl⟩
theorem qmY(t:TypeId)(x ix:Value):RO (Instr.indexAt t x ix):=by
 unfold Instr.indexAt
 repeat' (first|exact RO.pure _|exact qfQ _|exact qj6 _|exact qhI _|exact qmZ _|exact(qib _ _ _ _).ro|exact(su.halt _).ro|refine RO.bind ?_ (λ_=>?_)|split|dsimp only)
theorem qlO{m:Sem Value}(h:RO m){P:Program}{w:World}{n:Next}{w':World}(e:(do pure (.value (<-m)):Sem Next).run P w = .ok n w'):w'=w/\∃u,n = .value u:=by
 rw[Sem.run_bind]at e
 cases h':m.run P w with
 |ok x w1=>
  rw[h']at e
  cases e
  exact⟨h P w x _ h',x,rfl⟩
 |halt a b=>rw[h']at e;cases e
theorem qmS{o:Oper}(hs:RA o=true){ρ:Operand->Value}{P:Program}{w:World}{n:Next}{w':World}(e:(execOp ρ o).run P w = .ok n w'):w'=w/\∃u,n = .value u:=by
 unfold RA at hs
 unfold execOp at e
 split at hs
 ·rename_i x hop;rw[hop]at e;cases e;exact⟨rfl,_,rfl⟩
 ·rename_i T x hop;rw[hop]at e;exact qlO (RO.bind (qhI _) λa=>qmX T a) e
 ·rename_i T x ix hop;rw[hop]at e;exact qlO (qmY _ _ _) e
 ·cases hs
theorem qlw{ops:Array Oper}{Q:Exit->Act->World->Prop}{j:Nat}{oj:Oper}(hj:ops[j]? = some oj)(hs:RA oj=true){K:Act->World->Prop}(h:wpOp P ops Q j K a w):wpOp P ops Q j (λa' w'=>w'=w/\K a' w') a w:=by
 unfold wpOp at *
 simp only[hj]at *
 split
 ·rename_i hw
  rw[if_pos hw]at h
  refine h.imp_left λh=>?_
  unfold Oper.wp at *
  cases hr:(execOp a.eval oj).run P w with
  |ok n w'=>
   obtain⟨rfl,u,rfl⟩:=qmS hs hr
   rw[hr]at h
   exact⟨rfl,h⟩
  |halt x w'=>
   rw[hr]at h
   cases x<;>exact h
 ·rename_i hw
  rw[if_neg hw]at h
  exact⟨trivial,h⟩
theorem qjL{ops:Array Oper}{Q:Exit->Act->World->Prop}{S:World->Prop}{i:Nat}{oi:Oper}{v:Value}(hi:ops[i]? = some oi)(hsel:∀(j:Nat) (o:Oper) cs b,ops[j]? = some o->o.op≠.select cs b)
  (hQ:∀c a w,Q (.panic c) (a.put oi.dst v) w->Q (.panic c) a w) {D:List Nat} (hD:∀d∈D,d≠i->∃od,ops[d]? = some od/\∃e∈od.after,Region.binds .any e=true/\e.on∈D):
  ∀(qk:Nat) (listed:Array Bool) (a:Act) (w:World),
   (∀j oj,ops[j]? = some oj->j≠i->listed.getD j true=false->(∀e∈oj.after,Region.binds .any e=true->e.on≠i)->oi.apart ops oj=true)->
   (∀d∈D,listed.getD d true=false)->(∀j oj,ops[j]? = some oj->j≠i->listed.getD j true=false->j∉D->RA oj=true)->
   i∈Region.ready .any ops listed->YieldsIf P ops (λw0=>w0=w) oi v a->S w->
   wpAnyH P .any ops Q S qk (listed.setIfInBounds i true) (a.put oi.dst v) w->wpAnyH P .any ops Q S (qk+1) listed a w:=by
 intro qk
 induction qk with
 |zero=>
  intro listed a w _ _ _ hr hy hS H
  refine⟨λh=>(by rw[h]at hr;cases hr),λj hj=>?_⟩
  by_cases hji:j=i
  ·subst hji;exact YieldsIf.wpOp (S:=λw0=>w0=w) hi hy rfl ⟨hS,H⟩
  ·have:=ready_mono hj hji
   rw[H.1]at this
   cases this
 |succ qk ih=>
  intro listed a w hfree hDl hst hr hy hS H
  refine⟨λh=>(by rw[h]at hr;cases hr),λj hj=>?_⟩
  by_cases hji:j=i
  ·subst hji;exact YieldsIf.wpOp (S:=λw0=>w0=w) hi hy rfl ⟨hS,H⟩
  ·have h1:=H.2 j (ready_mono hj hji)
   obtain⟨NN,oj,cu,hall⟩:=mem_ready.1 hj
   have VQ:∀d,listed.getD d true=false->listed.getD d false=true->False:=λd h0 h1=>by
    rcases Nat.lt_or_ge d listed.size with h'|h'
    ·simp[h']at h0 h1;rw[h0]at h1;cases h1
    ·simp[Array.getElem?_eq_none h']at h1
   have Cq:∀e∈oj.after,Region.binds .any e=true->e.on≠i:=λe he hb heq=>VQ i (mem_ready.1 hr).1 (heq▸hall e he hb)
   have Sg:j∉D:=λSg=>by
    obtain⟨od,ho,e,he,hb,hon⟩:=hD j Sg hji
    rw[cu]at ho
    cases ho
    exact VQ _ (hDl _ hon) (hall e he hb)
   have h2:=qlw cu (hst j oj cu hji NN Sg) (wpOp_putIf cu (hfree j oj cu hji NN Cq) (λcs b=>hsel i oi cs b hi) (λcs b=>hsel j oj cs b cu) hQ hy h1)
   have Lk:∀k,(listed.setIfInBounds j true).getD k true=false->listed.getD k true=false:=λk hun=>by
    by_cases hjk:j=k
    ·subst hjk;exact NN
    ·rw[getD_set_ne true hjk]at hun;exact hun
   refine wpOp_mono (λa' w' h3=>?_) h2
   obtain⟨e1,h3,h4,h5⟩:=h3
   subst e1
   refine ih (listed.setIfInBounds j true) a' w' (λk ok hk hki hun hno=>hfree k ok hk hki (Lk k hun) hno) (λd hd=>?_) (λk ok hk hki hun hkD=>hst k ok hk hki (Lk k hun) hkD) (ready_mono hr (Ne.symm hji)) h3 h4 ?_ |> λh=>⟨h4,h⟩
   ·rw[getD_set_ne true (λe=>Sg (by rw[e];exact hd))]
    exact hDl d hd
   ·rw[Array.setIfInBounds_comm _ _ hji]
    exact h5
theorem qjT(ae:qx P aa)(hC:qD C aa){ops:Array Oper}{listed:Array Bool}{K:Act->World->Prop}{kk:St->Option R}{i:Nat}(hK:∀s a w,j1 P C s a w->kk s=some r->K a w)
  (hp:qjj ops listed s i=true) (hs:j1 P C s a w) (h:ku aa ops kk (FX ops i) s=some r):∃o v,ops[i]? = some o/\Region.free .any ops listed i=true/\Zu ops listed i=true/\YieldsIf P ops (λw0=>w0=w) o v a/\K (a.put o.dst v) w:=by
 unfold qjj at hp
 split at hp
 case h_2=>cases hp
 rename_i o ho
 split at hp
 case h_2=>cases hp
 rename_i T x hop hg
 rw[Bool.and_eq_true,Bool.and_eq_true]at hp
 obtain⟨hmp,hf,hsr⟩:=hp
 have hmp:=Option.isNone_iff_eq_none.1 hmp
 unfold FX at h
 rw[ho]at h
 have hst:jX o=true:=by unfold jX;rw[hop]
 have hwt:Region.wanted o (yielded ops a.tmps)=true:=by unfold Region.wanted;rw[hg]
 obtain⟨hd,h⟩:=MJ hs h
 rcases h with⟨_,s2,⟨hs2,sg⟩,h⟩|⟨hw,_⟩
 ·rw[qfr (aa:=aa) (sg hmp) (qeo hst)]at h
  obtain⟨s',h,v,hv,bE⟩:=UI ae hC hs2.pM hd hst h
  exact⟨o,v,ho,hf,hsr,.inl ⟨hwt,λw0 e=>by subst e;exact hv _ (jO.refl _ _)⟩,hK _ _ _ ((bE.aL none).nM rfl) h⟩
 ·rw[hwt]at hw;cases hw
theorem qh8{ops:Array Oper}{listed:Array Bool}{i:Nat}(h:Zu ops listed i=true):
  (∀d∈Rq ops listed i,d≠i->∃od,ops[d]? = some od/\∃e∈od.after,Region.binds .any e=true/\e.on∈Rq ops listed i)/\(∀d∈Rq ops listed i,listed.getD d true=false)/\
   ∀j oj,ops[j]? = some oj->j≠i->listed.getD j true=false->j∉Rq ops listed i->RA oj=true:=by
 unfold Zu zS at h
 rw[Bool.and_eq_true,List.all_eq_true,List.all_eq_true]at h
 obtain⟨h1,h2⟩:=h
 refine⟨λd hd hdi=>?_,λd hd=>?_,λj oj hj hji hun Sg=>?_⟩
 ·have:=h1 d hd
  rw[Bool.and_eq_true,Bool.or_eq_true]at this
  rcases this.2 with h3|h3
  ·exact absurd (Nat.eq_of_beq_eq_true h3) hdi
  ·split at h3
   ·rename_i o ho
    obtain⟨e,he,hb⟩:=Array.any_eq_true'.1 h3
    rw[Bool.and_eq_true]at hb
    exact⟨o,ho,e,he,hb.1,Gs.1 hb.2⟩
   ·cases h3
 ·have:=h1 d hd
  rw[Bool.and_eq_true]at this
  simpa using this.1
 ·have:=h2 j (List.mem_range.2 (Array.getElem?_eq_some_iff.1 hj).1)
  rw[hj,hun,Bool.false_or,Bool.or_eq_true,Bool.or_eq_true]at this
  rcases this with h3|h3|h3
  ·exact absurd (Nat.eq_of_beq_eq_true h3) hji
  ·exact absurd (Gs.1 h3) Sg
  ·exact h3
theorem qkn{ops:Array Oper}{listed:Array Bool}{dec:List Nat}{i:Nat}(h:Rh aa ops listed dec s i=true):s.mp=none:=by
 unfold Rh at h
 split at h
 ·rw[Bool.and_eq_true]at h;exact Option.isNone_iff_eq_none.1 h.1
 ·cases h
theorem YO(ae:qx P aa){ops:Array Oper}{kk:St->Option R}{Q:Exit->Act->World->Prop}(iK:Region.noSelect ops=true)(Ob:∀c a w,¬Q (.panic c) a w):
  ∀(n:Nat) (listed:Array Bool) (dec:List Nat) {C:cM} (_:qD C aa) (_:∀s a w,j1 P C s a w->kk s=some r->Q .normal a w) {s:St} {a:Act} {w:World},j1 P C s a w->Gc aa ops kk n listed dec s=some r->wpAnyH P .any ops Q (cI C.H0) n listed a w
 |0,listed,dec,C,hC,hQ,s,a,w,hs,h=>by
  unfold Gc at h
  unfold wpAnyH
  split at h
  ·rename_i e;exact⟨e,hQ _ _ _ hs h⟩
  ·cases h
 |n+1,listed,dec,C,hC,hQ,s,a,w,hs,h=>by
  unfold Gc at h
  obtain⟨dec,s,hs,h⟩:=Kc hs h
  split at h
  ·rename_i i hfind
   have hr:=List.mem_of_find?_eq_some hfind
   have hp:=List.find?_some hfind
   unfold qn3 at hp
   cases hp1:Rh aa ops listed dec s i with
   |false=>
    rw[hp1,Bool.false_or]at hp
    obtain⟨o,v,ho,hf,hsr,hy,hK⟩:=qjT ae hC (λs a w hs h=>YO ae iK Ob n _ dec hC hQ hs h) hp hs h
    obtain⟨k1,k2,k3⟩:=qh8 hsr
    exact qjL ho (Region.noSelect_spec iK) (λc a w h=>absurd h (Ob c _ w)) k1 n listed a w (Region.free_spec ho hf) k2 k3 hr hy hs.le hK
   |true=>
   replace hp:=hp1
   obtain⟨H,Φ,hb,hM⟩:=hs
   have cO:=hb.GY (qkn hp)
   obtain⟨o,v,ho,hf,hy,hK⟩:=qox (C:=uz C w H s.obj Φ) ae (Rk hC) (λs a w hs h=>YO ae iK Ob n _ dec (Rk hC) (λs a w hs h=>hQ s a w (hb.GK hs) h) hs h) hp hb.jv (by rw[qkn hp];trivial) h
   exact qfO (S':=cI H) (λw h b c e=>h b c (hb.le b c e)) _ _ _ _ (wpAnyH_take ho iK hf (by simpa using hr) (λc a w h=>absurd h (Ob c _ w)) hy hb.hok hK)
  ·unfold wpAnyH
   have hstep:∀(i:Nat),ku aa ops (λs=>Gc aa ops kk n (listed.setIfInBounds i true) dec s) (FX ops i) s=some r->
     wpOp P ops Q i (λa' w'=>cI C.H0 w'/\wpAnyH P .any ops Q (cI C.H0) n (listed.setIfInBounds i true) a' w') a w:=λi h=>
    DJ ae hC (λs a w hs h=>⟨hs.le,YO ae iK Ob n _ dec hC hQ hs h⟩) hs h
   split at h
   ·rename_i e;rw[e];exact⟨λ_=>hQ _ _ _ hs h,λi hi=>by cases hi⟩
   ·rename_i i e
    rw[e]
    refine⟨(λe=>by cases e),λj hj=>?_⟩
    rw[List.mem_singleton.1 hj]
    exact hstep i h
   ·rename_i i j l e
    rw[e]
    refine⟨(λe=>by cases e),λt ht=>?_⟩
    exact hstep t (qh4 h _ (List.mem_map.2 ⟨t,ht,rfl⟩))
theorem qle(hs:dS P C s a w)(x:Operand):dS P C (yD aa s x) a w/\(yD aa s x).mp=s.mp:=by
 unfold yD
 split
 ·split
  ·exact⟨hs,rfl⟩
  ·rename_i τ _
   cases τ.ay with
   |false=>exact⟨hs,rfl⟩
   |true=>
   rw[cond_true]
   split
   ·rename_i id _
    obtain⟨H,Φ,hs⟩:=hs
    obtain⟨H',_,_,_,hs2⟩:=hs.freeze id
    refine⟨⟨H',Φ,hs2⟩,?_⟩
    unfold St.freeze
    split<;>rfl
   ·exact⟨hs,rfl⟩
 ·exact⟨hs,rfl⟩
theorem zl:∀(l:List Oper) {s:St},dS P C s a w->dS P C (Rf aa l s) a w/\(Rf aa l s).mp=s.mp
 |[],_,hs=>⟨hs,rfl⟩
 |o::l,s,hs=>by
  unfold Rf
  split
  ·rename_i x _ _
   obtain⟨h1,h2⟩:=qle (aa:=aa) hs x
   obtain⟨h3,h4⟩:=zl l h1
   exact⟨h3,h4.trans h2⟩
  ·rename_i x _
   obtain⟨h1,h2⟩:=qle (aa:=aa) hs x
   obtain⟨h3,h4⟩:=zl l h1
   exact⟨h3,h4.trans h2⟩
  ·rename_i x _ _
   obtain⟨h1,h2⟩:=qle (aa:=aa) hs x
   obtain⟨h3,h4⟩:=zl l h1
   exact⟨h3,h4.trans h2⟩
  ·exact zl l hs
theorem Yw(ae:qx P aa)(hC:qD C aa){ops:Array Oper}{kk:St->Option R}{Q:Exit->Act->World->Prop}(iK:Region.noSelect ops=true)(hQ:∀s a w,j1 P C s a w->kk s=some r->Q .normal a w)(Ob:∀c a w,¬Q (.panic c) a w)
  (n:Nat) (listed:Array Bool) (dec:List Nat) {s:St} {a:Act} {w:World} (hs:j1 P C s a w) (h:Gc aa ops kk n listed dec s=some r):wpAny P .any ops Q n listed a w:=
 wpAny_of_held _ _ _ _ (YO ae iK Ob n listed dec hC hQ hs h)
end
end Go.Vi
namespace Go.Vi
def qs(aa:jB):Code->Bool
 |.region id ops true=>(nP id aa.mK&&Region.noSelect ops)||xb aa ops
 |.seq a b=>qs aa a&&qs aa b
 |.cond _ a b=>qs aa a&&qs aa b
 |.block _ c=>qs aa c
 |.loop c=>qs aa c
 |.rangeFunc _ _ _ _=>false
 |_=>true
section
variable {P:Program} {C:cM} {aa:jB} {R:Type} {r:R} {s:St} {a:Act} {w:World} {H:FH} {Φ:Nat->qH}
theorem IY{sh:Option XC}{d:JB sh}{os:Nat->Option Obj}(h:CT s sh=some d)(hM:uC P C s.mp os a w H Φ):uC P C (Lr sh d) os a w H Φ:=by
 match sh,d,h with
 |none,_,_=>trivial
 |some ⟨kt,vt,tm,none⟩,d,h=>
  simp only[CT]at h
  split at h
  case h_2=>cases h
  rename_i m hm
  cases hq:Nat.beq m.kt kt&&Nat.beq m.vt vt&&tm.all (λt=>nP t m.tm)with
  |false=>rw[hq]at h;cases h
  |true=>
  rw[hq]at h
  cases h
  rw[hm]at hM
  simp only[Bool.and_eq_true,List.all_eq_true]at hq
  obtain⟨⟨q1,q2⟩,q3⟩:=hq
  obtain rfl:=Nat.eq_of_beq_eq_true q1
  obtain rfl:=Nat.eq_of_beq_eq_true q2
  obtain⟨b,h1,h2,h3,h4,h5,_⟩:=hM
  exact⟨b,h1,h2,h3,h4,λt ht=>h5 t (Rx.1 (q3 t ht)),λti lf e=>by cases e⟩
 |some ⟨kt,vt,tm,some ti⟩,d,h=>
  simp only[CT]at h
  split at h
  case h_2=>cases h
  rename_i m hm
  split at h
  case h_2=>cases h
  rename_i FR lf hit
  cases hq:Nat.beq m.kt kt&&Nat.beq m.vt vt&&tm.all (λt=>nP t m.tm)&&ti.all (λt=>nP t FR)with
  |false=>rw[hq]at h;cases h
  |true=>
  rw[hq]at h
  cases h
  rw[hm]at hM
  simp only[Bool.and_eq_true,List.all_eq_true]at hq
  obtain⟨⟨⟨q1,q2⟩,q3⟩,q4⟩:=hq
  obtain rfl:=Nat.eq_of_beq_eq_true q1
  obtain rfl:=Nat.eq_of_beq_eq_true q2
  obtain⟨b,h1,h2,h3,h4,h5,h6⟩:=hM
  refine⟨b,h1,h2,h3,h4,λt ht=>h5 t (Rx.1 (q3 t ht)),λti2 lf2 e=>?_⟩
  cases e
  obtain⟨i,k1,k2,k3,k4⟩:=h6 _ _ hit
  exact⟨i,k1,k2,λt ht=>k3 t (Rx.1 (q4 t ht)),λn v e=>by cases e⟩
theorem uC.weaken{mp:Option Ms}{os os':Nat->Option Obj}(ho:∀id o,os' id=some o->os id=some o)(h:uC P C mp os a w H Φ):uC P C mp os' a w H Φ:=by
 have hf:∀b,ei C w H Φ os b->ei C w H Φ os' b:=λb hb=>⟨hb.fz,λid o h=>hb.obj id o (ho id o h),hb.may,hb.lt⟩
 cases mp with
 |none=>trivial
 |some m=>
  obtain⟨b,h1,h2,h3,h4,h5,h6⟩:=h
  refine⟨b,h1,h2,hf b h3,h4,h5,λti lf e=>?_⟩
  obtain⟨i,k1,k2⟩:=h6 ti lf e
  exact⟨i,hf i k1,k2⟩
theorem uF{sk:nB}{d:sk.Ff}(h:sk.get s=some d)(hs:j1 P C s a w):j1 P C (sk.fill d) a w:=by
 obtain⟨H,Φ,hs,hM⟩:=hs
 obtain⟨hsub,h3⟩:=qlI h
 exact⟨H,Φ,qlJ h hs,(IY h3 hM).weaken hsub⟩
theorem X.pP:∀{x y:X},x.same y=true->x=y
 |.norm,.norm,_=>rfl
 |.ret,.ret,_=>rfl
 |.exit i,.exit j,h=>by rw[Nat.eq_of_beq_eq_true h]
 |.norm,.ret,h=>by cases h
 |.norm,.exit _,h=>by cases h
 |.ret,.norm,h=>by cases h
 |.ret,.exit _,h=>by cases h
 |.exit _,.norm,h=>by cases h
 |.exit _,.ret,h=>by cases h
theorem xR{e:X}(hs:j1 P C s a w){k:X->St->Option R}:∀{outs:List (X×nB)} {o:ul outs},QY e s outs=some o->∃s',j1 P C s' a w/\vo k outs o=k e s'
 |[],_,h=>by cases h
 |[x],o,h=>by
  simp only[QY]at h
  cases hx:x.1.same e with
  |false=>rw[hx]at h;cases h
  |true=>
   rw[hx,cond_true]at h
   exact⟨_,uF h hs,by rw[<-X.pP hx];rfl⟩
 |x::y::l,o,h=>by
  unfold QY at h
  cases hx:x.1.same e with
  |false=>
   rw[hx,cond_false]at h
   split at h
   ·rename_i d hd
    cases h
    obtain⟨s',h1,h2⟩:=xR (outs:=y::l) hs hd
    exact⟨s',h1,h2⟩
   ·cases h
  |true=>
   rw[hx,cond_true]at h
   split at h
   ·rename_i d hd
    cases h
    exact⟨_,uF hd hs,by rw[<-X.pP hx];rfl⟩
   ·cases h
def Post(P:Program)(C:cM)(k:X->St->Option R)(r:R):Exit->Act->World->Prop
 |.normal,a,w=>∃s,j1 P C s a w/\k .norm s=some r
 |.exit i,a,w=>∃s,j1 P C s a w/\k (.exit i) s=some r
 |.ret,a,w=>∃s,j1 P C s a w/\k .ret s=some r
 |_,_,_=>False
theorem Gd(hm:P.follows .mixedOrders=true)(ae:qx P aa)(hC:qD C aa):∀(c:Code) {R:Type} {r:R} {n:Nat} {s:St} {k:X->St->Option R} {a:Act} {w:World},pX aa c->qs aa c=true->j1 P C s a w->run aa n c s k=some r->c.wp P (Post P C k r) a w
 |.skip,R,r,n,s,k,a,w,_,_,hs,h=>wp_skip ⟨s,hs,h⟩
 |.ret,R,r,n,s,k,a,w,_,_,hs,h=>wp_ret ⟨s,hs,h⟩
 |.exit i,R,r,n,s,k,a,w,_,_,hs,h=>wp_exit ⟨s,hs,h⟩
 |.region id ops draw,R,r,n,s,k,a,w,_,hd,hs,h=>by
  simp only[run]at h
  cases hq:draw&&s.mp.isSome with
  |true=>rw[hq]at h;cases h
  |false=>
   rw[hq,cond_false]at h
   have hmp:draw=true->s.mp=none:=by
    rintro rfl
    cases hmp:s.mp with
    |none=>rfl
    |some m=>rw[hmp]at hq;cases hq
   cases he:draw&&nP id aa.mK&&Region.noSelect ops with
   |true=>
    rw[he,cond_true]at h
    rw[Bool.and_eq_true,Bool.and_eq_true]at he
    obtain⟨⟨rfl,_⟩,iK⟩:=he
    split at h
    ·rename_i sk _
     rw[qj]at h
     replace h:=Option.bind_eq_some_iff.1 h
     obtain⟨d,h,h'⟩:=h
     exact wp_region_any hm (Yw ae hC iK (λs a w hs h=>⟨sk.fill d,uF h hs,h'⟩) (λc a w h=>h) _ _ _ (((zl (aa:=aa) ops.toList (hs.pM.grow (Gm w))).1).nM ((zl (aa:=aa) ops.toList (hs.pM.grow (Gm w))).2.trans (hmp rfl))) h)
    ·exact wp_region_any hm (Yw ae hC iK (λs a w hs h=>⟨s,hs,h⟩) (λc a w h=>h) _ _ _ (((zl (aa:=aa) ops.toList (hs.pM.grow (Gm w))).1).nM ((zl (aa:=aa) ops.toList (hs.pM.grow (Gm w))).2.trans (hmp rfl))) h)
   |false=>
    rw[he,cond_false]at h
    refine qoj hm ae hC ?_ (λs a w hs h=>⟨s,hs,h⟩) hs h
    rintro rfl
    rw[Bool.true_and]at he
    simp only[qs,he,Bool.false_or]at hd
    exact⟨hd,hmp rfl⟩
 |.seq x y,R,r,n,s,k,a,w,hl,hd,hs,h=>by
  simp only[qs,Bool.and_eq_true]at hd
  refine wp_seq (wp_mono (Gd hm ae hC x hl.1 hd.1 hs h) ?_)
  intro e a w hp
  cases e with
  |normal=>
   obtain⟨s',hs',h'⟩:=hp
   exact Gd hm ae hC y hl.2 hd.2 hs' h'
  |exit i=>obtain⟨s',hs',h'⟩:=hp;exact⟨s',hs',h'⟩
  |ret=>obtain⟨s',hs',h'⟩:=hp;exact⟨s',hs',h'⟩
  |_=>exact hp.elim
 |.cond c x y,R,r,n,s,k,a,w,hl,hd,hs,h=>by
  simp only[qs,Bool.and_eq_true]at hd
  simp only[run]at h
  split at h
  ·rename_i b hb
   obtain⟨H,Φ,gn,hM⟩:=hs
   have hv:=(ql gn qy hb).bool
   refine wp_cond hv ?_
   cases b with
   |true=>exact Gd hm ae hC x hl.1 hd.1 ⟨H,Φ,gn,hM⟩ h
   |false=>exact Gd hm ae hC y hl.2 hd.2 ⟨H,Φ,gn,hM⟩ h
  ·cases h
 |.block i c,R,r,n,s,k,a,w,hl,hd,hs,h=>by
  refine wp_block (wp_mono (Gd hm ae hC c hl hd hs h) ?_)
  intro e a w hp
  cases e with
  |normal=>obtain⟨s',hs',h'⟩:=hp;exact⟨s',hs',h'⟩
  |exit j=>
   obtain⟨s',hs',h'⟩:=hp
   simp only[Yx]at h'
   unfold Exit.inBlock
   cases hb:Nat.beq j i with
   |true=>
    rw[hb]at h'
    obtain rfl:=Nat.eq_of_beq_eq_true hb
    simp only[if_true]
    exact⟨s',hs',h'⟩
   |false=>
    rw[hb]at h'
    simp only[Nat.ne_of_beq_eq_false hb,if_false]
    exact⟨s',hs',h'⟩
  |ret=>obtain⟨s',hs',h'⟩:=hp;exact⟨s',hs',h'⟩
  |_=>exact hp.elim
 |.loop c,R,r,n,s,k,a,w,hl,hd,hs,h=>by
  simp only[run]at h
  split at h
  ·cases h
  ·rename_i key hkey
   split at h
   ·rename_i hn
    split at h
    ·cases h
    ·rename_i li yn
     split at h
     ·cases h
     ·rename_i d dK
      have ho:=qit h
      obtain⟨mF,heq⟩:=hl.2.2 key li hkey hn yn
      have hs':=uF dK hs
      have rounds:∀m d a w,li.w m d (λo=>vo k li.outs o=some r)=some ()->j1 P C (li.ins.fill d) a w->Code.rounds P c (Post P C k r) m a w:=by
       intro m
       induction m with
       |zero=>intro d a w hg;rw[mF]at hg;cases hg
       |succ m ih=>
        intro d a w hg yd
        rw[heq]at hg
        refine wp_mono (Gd hm ae hC c hl.1 hd yd hg) ?_
        intro e a w hp
        cases e with
        |normal=>
         obtain⟨s2,hs2,h2⟩:=hp
         simp only[qc3]at h2
         split at h2
         ·rename_i d2 hd2
          exact ih d2 a w h2 (uF hd2 hs2)
         ·cases h2
        |exit j=>
         obtain⟨s2,hs2,h2⟩:=hp
         simp only[qc3]at h2
         split at h2
         case h_2=>cases h2
         rename_i o2 df
         obtain⟨s3,i_,h3⟩:=xR hs2 (k:=k) df
         exact⟨s3,i_,by rw[<-h3];exact MK h2⟩
        |ret=>
         obtain⟨s2,hs2,h2⟩:=hp
         simp only[qc3]at h2
         split at h2
         case h_2=>cases h2
         rename_i o2 df
         obtain⟨s3,i_,h3⟩:=xR hs2 (k:=k) df
         exact⟨s3,i_,by rw[<-h3];exact MK h2⟩
        |_=>exact hp.elim
      exact wp_loop_rounds n (rounds n d a w ho hs')
   ·rename_i li yn
    split at h
    ·cases h
    ·rename_i d dK
     rw[qj]at h
     replace h:=Option.bind_eq_some_iff.1 h
     obtain⟨o,ho,h⟩:=h
     obtain⟨mF,heq⟩:=hl.2.1 key li hkey yn
     have hs':=uF dK hs
     have rounds:∀m d a w,li.g m d=some o->j1 P C (li.ins.fill d) a w->Code.rounds P c (Post P C k r) m a w:=by
      intro m
      induction m with
      |zero=>intro d a w hg;rw[mF]at hg;cases hg
      |succ m ih=>
       intro d a w hg yd
       rw[heq]at hg
       refine wp_mono (Gd hm ae hC c hl.1 hd yd hg) ?_
       intro e a w hp
       cases e with
       |normal=>
        obtain⟨s2,hs2,h2⟩:=hp
        simp only[qV]at h2
        split at h2
        ·rename_i d2 hd2
         exact ih d2 a w h2 (uF hd2 hs2)
        ·cases h2
       |exit j=>
        obtain⟨s2,hs2,h2⟩:=hp
        obtain⟨s3,i_,h3⟩:=xR hs2 (k:=k) h2
        exact⟨s3,i_,by rw[<-h3];exact h⟩
       |ret=>
        obtain⟨s2,hs2,h2⟩:=hp
        obtain⟨s3,i_,h3⟩:=xR hs2 (k:=k) h2
        exact⟨s3,i_,by rw[<-h3];exact h⟩
       |_=>exact hp.elim
     exact wp_loop_rounds n (rounds n d a w ho hs')
 |.rangeFunc _ _ _ _,_,_,_,_,_,_,_,_,hd,_,_=>by cases hd
 |.scope _,_,_,_,_,_,_,_,_,_,_,h=>by cases h
 |.label _,_,_,_,_,_,_,_,_,_,_,h=>by cases h
 |.goto _,_,_,_,_,_,_,_,_,_,_,h=>by cases h
 |.refuse _,_,_,_,_,_,_,_,_,_,_,h=>by cases h
end
end Go.Vi
namespace Go.Vi
section
variable {P:Program} {C:cM} {aa:jB} {R:Type} {r:R} {s:St} {a:Act} {w:World} {H:FH} {Φ:Nat->qH}
def ya(id:Nat):qH:=if 4000000<=id/\id<7000000 then⟨0,.slice (some ⟨0,0,none⟩) 0 0,[]⟩else if 7000000<=id/\id<10000000 then⟨0,.slice none 0 0,[]⟩else qA
theorem BD(id:Nat):Jn id (ya id).ax:=by
 unfold ya
 by_cases h1:4000000<=id/\id<7000000
 ·rw[if_pos h1]
  exact⟨λ_ _=>⟨_,_,_,rfl⟩,λ_ _=>by omega⟩
 ·rw[if_neg h1]
  by_cases h2:7000000<=id/\id<10000000
  ·rw[if_pos h2]
   exact⟨λ_ _=>by omega,λ_ _=>rfl⟩
  ·rw[if_neg h2]
   exact⟨λ_ _=>by omega,λ_ _=>by omega⟩
def dA:List j3->List qH->Nat->List (Nat×qH)
 |.v _::ps,_::ai,i=>dA ps ai (i+1)
 |.r _::ps,_::ai,i=>dA ps ai (i+1)
 |.c _::ps,_::ai,i=>dA ps ai (i+1)
 |.m _::ps,φ::ai,i=>(pid i,φ)::dA ps ai (i+1)
 |.mr _ _::ps,φ::ai,i=>(pid i,φ)::dA ps ai (i+1)
 |.t _ _::ps,φ::ai,i=>(pid i,φ)::dA ps ai (i+1)
 |.gm _::ps,φ::ai,i=>(pid i,φ)::dA ps ai (i+1)
 |.cm _ _::ps,φ::ai,i=>(pid i,φ)::dA ps ai (i+1)
 |_,_,_=>[]
theorem FW{α:Type}{n:Nat}{x:α}:∀{l:List (Nat×α)},(l.map (·.1)).Nodup->(n,x)∈l->lk l n=some x
 |[],_,h=>by cases h
 |(m,y)::l,aq,h=>by
  simp only[List.map_cons,List.nodup_cons]at aq
  rw[jW]
  rcases List.mem_cons.1 h with e|h
  ·cases e;simp[Nat.beq_refl]
  ·have:Nat.beq m n=false:=by
    cases hb:Nat.beq m n with
    |false=>rfl
    |true=>obtain rfl:=Nat.eq_of_beq_eq_true hb;exact absurd (List.mem_map.2 ⟨_,h,rfl⟩) aq.1
   rw[this]
   exact FW aq.2 h
theorem jx{i j:Nat}(h:i<j):pid i<pid j:=by unfold pid;omega
theorem vl:∀{ps:List j3} {d:aI ps} {vs:List Value} {ai:List qH} (i:Nat),jU P w H ps d vs ai->
  vs.length=ps.length/\qc ai=(dA ps ai i).flatMap (·.2.fp)/\(∀x∈dA ps ai i,pid i<=x.1)/\((dA ps ai i).map (·.1)).Nodup/\((jG ps i d).map (·.1)).Nodup/\(∀x∈jG ps i d,pid i<=x.1)/\
   (∀id x,(id,x)∈jG ps i d->∃o φ,x=some o/\(id,φ)∈dA ps ai i/\qR P w H o φ)/\
   ∀(Φ:Nat->qH) (os:Nat->Option Obj),(∀x∈dA ps ai i,Φ x.1=x.2)->(∀id o,(id,some o)∈jG ps i d->os id=some o)->∀t av,lk (jZ ps i d) t=some av->∃j v,t=i+j/\vs[j]? = some v/\qi P C w H Φ os av v
 |[],d,vs,ai,i,h=>by
  obtain⟨rfl,rfl⟩:=h
  exact⟨rfl,rfl,by simp[dA],by simp[dA],by simp[jG],by simp[jG],by simp[jG],λ_ _ _ _ t av ht=>by cases ht⟩
 |.v τ::ps,d,vs,ai,i,h=>by
  obtain⟨v,vs',φ,ag,rfl,rfl,hfz,hφ,hv,h⟩:=h
  obtain⟨h1,h2,h3,h4,h5,h6,h7,h8⟩:=vl (i+1) h
  refine⟨by simp[h1],by simpa[qc,hφ,dA]using h2,λx hx=>Nat.le_trans (Nat.le_of_lt (jx (Nat.lt_succ_self i))) (h3 x hx),h4,h5,λx hx=>Nat.le_trans (Nat.le_of_lt (jx (Nat.lt_succ_self i))) (h6 x hx),h7,?_⟩
  intro Φ os gV hos t av ht
  rw[jZ,jW]at ht
  cases hb:Nat.beq i t with
  |true=>
   rw[hb]at ht
   cases ht
   obtain rfl:=Nat.eq_of_beq_eq_true hb
   exact⟨0,v,rfl,rfl,hfz,hv⟩
  |false=>
   rw[hb]at ht
   obtain⟨j,u,e,hu,hr⟩:=h8 Φ os gV hos t av ht
   exact⟨j+1,u,by omega,by simpa using hu,hr⟩
 |.r τ::ps,d,vs,ai,i,h=>by
  obtain⟨v,vs',φ,ag,rfl,rfl,hfz,hφ,hv,h⟩:=h
  obtain⟨h1,h2,h3,h4,h5,h6,h7,h8⟩:=vl (i+1) h
  refine⟨by simp[h1],by simpa[qc,hφ,dA]using h2,λx hx=>Nat.le_trans (Nat.le_of_lt (jx (Nat.lt_succ_self i))) (h3 x hx),h4,h5,λx hx=>Nat.le_trans (Nat.le_of_lt (jx (Nat.lt_succ_self i))) (h6 x hx),h7,?_⟩
  intro Φ os gV hos t av ht
  rw[jZ,jW]at ht
  cases hb:Nat.beq i t with
  |true=>
   rw[hb]at ht
   cases ht
   obtain rfl:=Nat.eq_of_beq_eq_true hb
   exact⟨0,v,rfl,rfl,hfz,hv⟩
  |false=>
   rw[hb]at ht
   obtain⟨j,u,e,hu,hr⟩:=h8 Φ os gV hos t av ht
   exact⟨j+1,u,by omega,by simpa using hu,hr⟩
 |.c f::ps,d,vs,ai,i,h=>by
  obtain⟨v,vs',φ,ag,rfl,rfl,hfz,hφ,hv,h⟩:=h
  obtain⟨h1,h2,h3,h4,h5,h6,h7,h8⟩:=vl (i+1) h
  refine⟨by simp[h1],by simpa[qc,hφ,dA]using h2,λx hx=>Nat.le_trans (Nat.le_of_lt (jx (Nat.lt_succ_self i))) (h3 x hx),h4,h5,λx hx=>Nat.le_trans (Nat.le_of_lt (jx (Nat.lt_succ_self i))) (h6 x hx),h7,?_⟩
  intro Φ os gV hos t av ht
  rw[jZ,jW]at ht
  cases hb:Nat.beq i t with
  |true=>
   rw[hb]at ht
   cases ht
   obtain rfl:=Nat.eq_of_beq_eq_true hb
   exact⟨0,v,rfl,rfl,#[],#[],hv,rfl,rfl⟩
  |false=>
   rw[hb]at ht
   obtain⟨j,u,e,hu,hr⟩:=h8 Φ os gV hos t av ht
   exact⟨j+1,u,by omega,by simpa using hu,hr⟩
 |.m τ::ps,d,vs,ai,i,h=>by
  obtain⟨v,vs',φ,ag,rfl,rfl,hv,hok,h⟩:=h
  obtain⟨h1,h2,h3,h4,h5,h6,h7,h8⟩:=vl (i+1) h
  have hlt:pid i<pid (i+1):=jx (Nat.lt_add_one i)
  refine⟨by simp[h1],by simpa[qc,dA]using h2,?_,?_,?_,?_,?_,?_⟩
  ·intro x hx
   rcases List.mem_cons.1 hx with rfl|hx
   ·exact Nat.le_refl _
   ·exact Nat.le_trans (Nat.le_of_lt hlt) (h3 x hx)
  ·simp only[dA,List.map_cons,List.nodup_cons]
   refine⟨λhm=>?_,h4⟩
   obtain⟨x,hx,e⟩:=List.mem_map.1 hm
   have:=h3 x hx
   omega
  ·simp only[jG,List.map_cons,List.nodup_cons]
   refine⟨λhm=>?_,h5⟩
   obtain⟨x,hx,e⟩:=List.mem_map.1 hm
   have:=h6 x hx
   omega
  ·intro x hx
   rcases List.mem_cons.1 hx with rfl|hx
   ·exact Nat.le_refl _
   ·exact Nat.le_trans (Nat.le_of_lt hlt) (h6 x hx)
  ·intro id x hx
   rcases List.mem_cons.1 hx with e|hx
   ·cases e
    exact⟨_,φ,rfl,List.mem_cons_self,hok⟩
   ·obtain⟨o,eE,e,hm,cD⟩:=h7 id x hx
    exact⟨o,eE,e,List.mem_cons_of_mem _ hm,cD⟩
  ·intro Φ os gV hos t av ht
   rw[jZ,jW]at ht
   cases hb:Nat.beq i t with
   |true=>
    rw[hb]at ht
    cases ht
    obtain rfl:=Nat.eq_of_beq_eq_true hb
    have e:=gV (pid i,φ) List.mem_cons_self
    simp only at e
    refine⟨0,v,rfl,rfl,⟨false,τ,d.1⟩,⟨τ,d.1⟩,φ.b,0,hos _ _ List.mem_cons_self,rfl,qO _ _,?_,hv⟩
    rw[e]
    exact kV _ _ _ _
   |false=>
    rw[hb]at ht
    obtain⟨j,u,e,hu,hr⟩:=h8 Φ os (λx hx=>gV x (List.mem_cons_of_mem _ hx)) (λid o ho=>hos id o (List.mem_cons_of_mem _ ho)) t av ht
    exact⟨j+1,u,by omega,by simpa using hu,hr⟩
 |.gm τ::ps,d,vs,ai,i,h=>by
  obtain⟨v,vs',φ,ag,rfl,rfl,hv,hok,h⟩:=h
  obtain⟨h1,h2,h3,h4,h5,h6,h7,h8⟩:=vl (i+1) h
  have hlt:pid i<pid (i+1):=jx (Nat.lt_add_one i)
  refine⟨by simp[h1],by simpa[qc,dA]using h2,?_,?_,?_,?_,?_,?_⟩
  ·intro x hx
   rcases List.mem_cons.1 hx with rfl|hx
   ·exact Nat.le_refl _
   ·exact Nat.le_trans (Nat.le_of_lt hlt) (h3 x hx)
  ·simp only[dA,List.map_cons,List.nodup_cons]
   refine⟨λhm=>?_,h4⟩
   obtain⟨x,hx,e⟩:=List.mem_map.1 hm
   have:=h3 x hx
   omega
  ·simp only[jG,List.map_cons,List.nodup_cons]
   refine⟨λhm=>?_,h5⟩
   obtain⟨x,hx,e⟩:=List.mem_map.1 hm
   have:=h6 x hx
   omega
  ·intro x hx
   rcases List.mem_cons.1 hx with rfl|hx
   ·exact Nat.le_refl _
   ·exact Nat.le_trans (Nat.le_of_lt hlt) (h6 x hx)
  ·intro id x hx
   rcases List.mem_cons.1 hx with e|hx
   ·cases e
    exact⟨_,φ,rfl,List.mem_cons_self,hok⟩
   ·obtain⟨o,eE,e,hm,cD⟩:=h7 id x hx
    exact⟨o,eE,e,List.mem_cons_of_mem _ hm,cD⟩
  ·intro Φ os gV hos t av ht
   rw[jZ,jW]at ht
   cases hb:Nat.beq i t with
   |true=>
    rw[hb]at ht
    cases ht
    obtain rfl:=Nat.eq_of_beq_eq_true hb
    have e:=gV (pid i,φ) List.mem_cons_self
    simp only at e
    refine⟨0,v,rfl,rfl,⟨false,τ,d.1⟩,⟨τ,d.1⟩,φ.b,0,hos _ _ List.mem_cons_self,rfl,qO _ _,?_,hv⟩
    rw[e]
    exact kV _ _ _ _
   |false=>
    rw[hb]at ht
    obtain⟨j,u,e,hu,hr⟩:=h8 Φ os (λx hx=>gV x (List.mem_cons_of_mem _ hx)) (λid o ho=>hos id o (List.mem_cons_of_mem _ ho)) t av ht
    exact⟨j+1,u,by omega,by simpa using hu,hr⟩
 |.mr tid e::ps,d,vs,ai,i,h=>by
  obtain⟨v,vs',φ,ag,rfl,rfl,hv,hok,h⟩:=h
  obtain⟨h1,h2,h3,h4,h5,h6,h7,h8⟩:=vl (i+1) h
  have hlt:pid i<pid (i+1):=jx (Nat.lt_add_one i)
  refine⟨by simp[h1],by simpa[qc,dA]using h2,?_,?_,?_,?_,?_,?_⟩
  ·intro x hx
   rcases List.mem_cons.1 hx with rfl|hx
   ·exact Nat.le_refl _
   ·exact Nat.le_trans (Nat.le_of_lt hlt) (h3 x hx)
  ·simp only[dA,List.map_cons,List.nodup_cons]
   refine⟨λhm=>?_,h4⟩
   obtain⟨x,hx,e⟩:=List.mem_map.1 hm
   have:=h3 x hx
   omega
  ·simp only[jG,List.map_cons,List.nodup_cons]
   refine⟨λhm=>?_,h5⟩
   obtain⟨x,hx,e⟩:=List.mem_map.1 hm
   have:=h6 x hx
   omega
  ·intro x hx
   rcases List.mem_cons.1 hx with rfl|hx
   ·exact Nat.le_refl _
   ·exact Nat.le_trans (Nat.le_of_lt hlt) (h6 x hx)
  ·intro id x hx
   rcases List.mem_cons.1 hx with e|hx
   ·cases e
    exact⟨_,φ,rfl,List.mem_cons_self,hok⟩
   ·obtain⟨o,eE,e,hm,cD⟩:=h7 id x hx
    exact⟨o,eE,e,List.mem_cons_of_mem _ hm,cD⟩
  ·intro Φ os gV hos t av ht
   rw[jZ,jW]at ht
   cases hb:Nat.beq i t with
   |true=>
    rw[hb]at ht
    cases ht
    obtain rfl:=Nat.eq_of_beq_eq_true hb
    have e:=gV (pid i,φ) List.mem_cons_self
    simp only at e
    refine⟨0,v,rfl,rfl,⟨true,.list true tid _,d.1⟩,⟨.list true tid _,d.1⟩,hos _ _ List.mem_cons_self,qO _ _,?_⟩
    simp only[List.isEmpty_nil,Bool.and_self]
    rw[e]
    exact hv
   |false=>
    rw[hb]at ht
    obtain⟨j,u,e,hu,hr⟩:=h8 Φ os (λx hx=>gV x (List.mem_cons_of_mem _ hx)) (λid o ho=>hos id o (List.mem_cons_of_mem _ ho)) t av ht
    exact⟨j+1,u,by omega,by simpa using hu,hr⟩
 |.t tid e::ps,d,vs,ai,i,h=>by
  obtain⟨v,vs',φ,ag,rfl,rfl,hv,hok,h⟩:=h
  obtain⟨h1,h2,h3,h4,h5,h6,h7,h8⟩:=vl (i+1) h
  have hlt:pid i<pid (i+1):=jx (Nat.lt_add_one i)
  refine⟨by simp[h1],by simpa[qc,dA]using h2,?_,?_,?_,?_,?_,?_⟩
  ·intro x hx
   rcases List.mem_cons.1 hx with rfl|hx
   ·exact Nat.le_refl _
   ·exact Nat.le_trans (Nat.le_of_lt hlt) (h3 x hx)
  ·simp only[dA,List.map_cons,List.nodup_cons]
   refine⟨λhm=>?_,h4⟩
   obtain⟨x,hx,e⟩:=List.mem_map.1 hm
   have:=h3 x hx
   omega
  ·simp only[jG,List.map_cons,List.nodup_cons]
   refine⟨λhm=>?_,h5⟩
   obtain⟨x,hx,e⟩:=List.mem_map.1 hm
   have:=h6 x hx
   omega
  ·intro x hx
   rcases List.mem_cons.1 hx with rfl|hx
   ·exact Nat.le_refl _
   ·exact Nat.le_trans (Nat.le_of_lt hlt) (h6 x hx)
  ·intro id x hx
   rcases List.mem_cons.1 hx with e|hx
   ·cases e
    exact⟨_,φ,rfl,List.mem_cons_self,hok⟩
   ·obtain⟨o,eE,e,hm,cD⟩:=h7 id x hx
    exact⟨o,eE,e,List.mem_cons_of_mem _ hm,cD⟩
  ·intro Φ os gV hos t av ht
   rw[jZ,jW]at ht
   cases hb:Nat.beq i t with
   |true=>
    rw[hb]at ht
    cases ht
    obtain rfl:=Nat.eq_of_beq_eq_true hb
    have e:=gV (pid i,φ) List.mem_cons_self
    simp only at e
    refine⟨0,v,rfl,rfl,⟨true,.list true tid _,d.1⟩,⟨.list true tid _,d.1⟩,hos _ _ List.mem_cons_self,qO _ _,?_⟩
    simp only[List.isEmpty_nil,Bool.and_self]
    rw[e]
    exact hv
   |false=>
    rw[hb]at ht
    obtain⟨j,u,e,hu,hr⟩:=h8 Φ os (λx hx=>gV x (List.mem_cons_of_mem _ hx)) (λid o ho=>hos id o (List.mem_cons_of_mem _ ho)) t av ht
    exact⟨j+1,u,by omega,by simpa using hu,hr⟩
 |.cm f τ::ps,d,vs,ai,i,h=>by
  obtain⟨v,vs',φ,ag,rfl,rfl,hv,hok,h⟩:=h
  obtain⟨h1,h2,h3,h4,h5,h6,h7,h8⟩:=vl (i+1) h
  have hlt:pid i<pid (i+1):=jx (Nat.lt_add_one i)
  refine⟨by simp[h1],by simpa[qc,dA]using h2,?_,?_,?_,?_,?_,?_⟩
  ·intro x hx
   rcases List.mem_cons.1 hx with rfl|hx
   ·exact Nat.le_refl _
   ·exact Nat.le_trans (Nat.le_of_lt hlt) (h3 x hx)
  ·simp only[dA,List.map_cons,List.nodup_cons]
   refine⟨λhm=>?_,h4⟩
   obtain⟨x,hx,e⟩:=List.mem_map.1 hm
   have:=h3 x hx
   omega
  ·simp only[jG,List.map_cons,List.nodup_cons]
   refine⟨λhm=>?_,h5⟩
   obtain⟨x,hx,e⟩:=List.mem_map.1 hm
   have:=h6 x hx
   omega
  ·intro x hx
   rcases List.mem_cons.1 hx with rfl|hx
   ·exact Nat.le_refl _
   ·exact Nat.le_trans (Nat.le_of_lt hlt) (h6 x hx)
  ·intro id x hx
   rcases List.mem_cons.1 hx with e|hx
   ·cases e
    exact⟨_,φ,rfl,List.mem_cons_self,hok⟩
   ·obtain⟨o,eE,e,hm,cD⟩:=h7 id x hx
    exact⟨o,eE,e,List.mem_cons_of_mem _ hm,cD⟩
  ·intro Φ os gV hos t av ht
   rw[jZ,jW]at ht
   cases hb:Nat.beq i t with
   |true=>
    rw[hb]at ht
    cases ht
    obtain rfl:=Nat.eq_of_beq_eq_true hb
    have e:=gV (pid i,φ) List.mem_cons_self
    simp only at e
    refine⟨0,v,rfl,rfl,#[],#[.pointer (some ⟨φ.b,0,none⟩)],hv,rfl,_,[],rfl,⟨⟨false,τ,d.1⟩,⟨τ,d.1⟩,φ.b,0,hos _ _ List.mem_cons_self,rfl,qO _ _,?_,rfl⟩,rfl⟩
    rw[e]
    exact kV _ _ _ _
   |false=>
    rw[hb]at ht
    obtain⟨j,u,e,hu,hr⟩:=h8 Φ os (λx hx=>gV x (List.mem_cons_of_mem _ hx)) (λid o ho=>hos id o (List.mem_cons_of_mem _ ho)) t av ht
    exact⟨j+1,u,by omega,by simpa using hu,hr⟩
def sK(w:World)(H:FH)(nt:Nat)(ps:List j3)(ai:List qH):cM:=⟨w,(· ∈qc ai),H,nt,lk (dA ps ai 0),[],λ_=>none⟩
theorem Zn{ps:List j3}{d:aI ps}{vs:List Value}{ai:List qH}(hok:cI H w)(hargs:jU P w H ps d vs ai)(aq:(qc ai).Nodup)(hfr:∀b∈qc ai,H b=none/\b<w.heap.size){nt:Nat}(hnt:ps.length<=nt):
  qh P (sK w H nt ps ai) (Ke ps d) {tmps:=vs.toArray++Array.replicate (nt-vs.toArray.size) undef,defers:=[]} w H (λid=>(lk (dA ps ai 0) id).getD (ya id)):=by
 obtain⟨h1,h2,h3,h4,h5,h6,h7,h8⟩:=vl (C:=sK w H nt ps ai) 0 hargs
 have gV:∀x∈dA ps ai 0,(lk (dA ps ai 0) x.1).getD (ya x.1)=x.2:=λx hx=>by rw[FW h4 hx];rfl
 have bh:∀id o,(Ke ps d).obj id=some o->(id,some o)∈jG ps 0 d:=by
  intro id o ho
  have ho':(lk (jG ps 0 d) id).join=some o:=ho
  cases hq:lk (jG ps 0 d) id with
  |none=>rw[hq]at ho';cases ho'
  |some x=>rw[hq]at ho';simp only[Option.join_some]at ho';rw[<-ho'];exact sL hq
 have dN:∀id o,(Ke ps d).obj id=some o->∃φ,(id,φ)∈dA ps ai 0/\qR P w H o φ:=by
  intro id o ho
  obtain⟨o',φ,e,hm,hok⟩:=h7 id _ (bh id o ho)
  cases e
  exact⟨φ,hm,hok⟩
 refine⟨rfl,?_,FH.le_refl _,hok,λb c hb=>.inl hb,jO.refl _ _,?_,?_,?_,?_⟩
 ·simp only[Array.size_append,List.size_toArray,Array.size_replicate,sK]
  omega
 ·intro t av ht
  obtain⟨j,v,e,hv,hr⟩:=h8 (λid=>(lk (dA ps ai 0) id).getD (ya id)) (Ke ps d).obj gV (λid o ho=>by
   show(lk (jG ps 0 d) id).join=some o
   rw[FW h5 ho];rfl) t av ht
  obtain rfl:t=j:=by omega
  have:(vs.toArray++Array.replicate (nt-vs.toArray.size) undef).getD t undef=v:=by
   have hlt:=(List.getElem?_eq_some_iff.1 hv).1
   rw[Array.getD_eq_getD_getElem?,Array.getElem?_append_left (by simpa using hlt)]
   simp[hv]
  simp only[this]
  exact hr
 ·intro id o ho
  obtain⟨φ,hm,hok⟩:=dN id o ho
  rw[gV _ hm]
  refine⟨hok,λb hb=>?_⟩
  have hb':b∈qc ai:=by rw[h2];exact List.mem_flatMap.2 ⟨_,hm,hb⟩
  exact⟨(hfr b hb').1,.inl hb',(hfr b hb').2⟩
 ·intro i j o o' hij hi hj b hb
  obtain⟨φ,hm,_⟩:=dN i o hi
  obtain⟨eE,hm',_⟩:=dN j o' hj
  rw[gV _ hm]at hb
  rw[gV _ hm']
  rw[h2]at aq
  exact qhr aq _ hm _ hm' (by intro e;cases e;exact hij rfl) b hb
 ·refine⟨λid φ hφ=>?_,λid=>?_⟩
  ·have:lk (dA ps ai 0) id=some φ:=hφ
   rw[this]
   exact⟨rfl,rfl⟩
  ·cases hq:lk (dA ps ai 0) id with
   |none=>exact BD id
   |some φ=>
    have h:=h3 _ (sL hq)
    exact Dw (Nat.le_trans (by unfold pid;omega) h)
theorem qhu{ps:List j3}{d:aI ps}{vs:List Value}{ai:List qH}(hargs:jU P w H ps d vs ai):qD (sK w H aa.nt ps ai) aa:=by
 obtain⟨_,_,h3,_⟩:=vl (C:=sK w H aa.nt ps ai) 0 hargs
 refine⟨rfl,λid aF=>?_⟩
 show lk (dA ps ai 0) id=none
 cases hq:lk (dA ps ai 0) id with
 |none=>rfl
 |some φ=>
  have h:=h3 _ (sL hq)
  have h':pid 0<=id:=h
  unfold pid at h'
  omega
end
end Go.Vi
namespace Go.Vi
section
variable {P:Program} {C:cM} {aa:jB} {R:Type} {r:R} {s:St} {a:Act} {w:World} {H:FH} {Φ:Nat->qH}
theorem qc1{t:TypeId}{τ:Ty}(h:qT P t τ){w:World}{b o:Nat}{blk:Array Value}{bt:TypeId}{f:Nat×Nat}(hb:w.heap[b]? = some (.cells blk bt f))(hs:(ct blk o τ.size).length=τ.size):
  (loadVar t ⟨b,o,none⟩).run P w = .ok (j7 τ (ct blk o τ.size)) w:=by
 obtain⟨_,_,_,hp,_⟩:=h.info
 obtain⟨pre,post,e1,e2⟩:=qj2 hs hp
 have:=qhH h hb e1 hs
 rw[e2]at this
 exact this
theorem BM(ae:qx P aa)(hs:qh P C s a w H Φ){T:TypeId}{av:AV}{v:Value}(hr:qi P C w H Φ s.obj av v){kk:AV->Option R}(h:Ts s (lk aa.ty T) av kk=some r):
  ∃bv u,kk bv=some r/\qi P C w H Φ s.obj bv u/\∃ad,v = .pointer (some ad)/\(loadVar T ad).run P w = .ok u w:=by
 unfold Ts at h
 split at h
 ·rename_i σ y
  cases hT:decide (lk aa.ty T=some σ)with
  |false=>rw[hT]at h;cases h
  |true=>
   rw[hT,cond_true]at h
   obtain⟨a_,_⟩:=ae.ty T _ (of_decide_eq_true hT)
   obtain⟨hf,b,o,blk,hv,hH,an⟩:=hr
   obtain⟨t,f,hb⟩:=hs.hok.cells hH
   exact⟨_,j7 σ (ct blk o σ.size),h,⟨hf,_,rfl,an⟩,_,hv,qc1 a_ hb (qm.length σ an)⟩
 ·rename_i id p
  obtain⟨o,y,b,off,h1,h2,h3,h4,hv⟩:=hr
  rw[h1]at h
  simp only[h2,cond_false]at h
  have kM:=jH _ h3
  rw[kM]at h
  obtain⟨σ,y⟩:=y
  simp only at h kM
  cases hT:decide (lk aa.ty T=some σ.fz)with
  |false=>rw[hT]at h;cases h
  |true=>
   rw[hT,cond_true]at h
   obtain⟨a_,_⟩:=ae.ty T _ (of_decide_eq_true hT)
   have my:=qT.gw a_
   have hok:=(hs.os id o h1).1
   obtain⟨b',o',hl,aX,t',pre',c,post',f1,f',f2,e1,e2,e3,e4,e5,e6,_⟩:=hok.desc (y:=y) h3 ⟨w,_,_,h4⟩ h2
   obtain⟨rfl,rfl⟩:=jV.fN h4 (hl w (λ_ _=>rfl))
   have eB:ct aX off σ.size=c:=by rw[<-e3];exact qZ e2 (qm.length σ e6)
   have hrun:(loadVar T ⟨b,off,none⟩).run P w = .ok (j7 σ c) w:=by
    have:=qc1 my (o:=off) e1 (by rw[eB];exact qm.length σ e6)
    rw[eB]at this
    exact this
   cases hfz:σ.ay with
   |true=>
    rw[hfz,cond_true,jJ,h3]at h
    have nF:=qm.dg σ hfz e6
    subst nF
    exact⟨_,j7 σ c,h,⟨hfz,c,rfl,e6⟩,_,hv,hrun⟩
   |false=>
    rw[hfz,cond_false]at h
    refine⟨_,j7 σ c,h,⟨o,⟨σ,y⟩,h1,h3,?_⟩,_,hv,hrun⟩
    rw[h2]
    exact⟨b,off,aX,t',h4,e1,by rw[eB]⟩
 ·cases h
def YN(P:Program)(a:Act)(w:World)(v:ResultVar)(u:Value):Prop:=
 (match v with
  |.tmp t=>(pure (a.tmps.getD t undef):Sem Value)
  |.cell x t=>do loadVar t (<-asAddr (a.tmps.getD x undef))).run P w = .ok u w
theorem Uv(ae:qx P aa)(hs:qh P C s a w H Φ){v:ResultVar}{kk:AV->Option R}(h:Ml aa s v kk=some r):∃av u,kk av=some r/\qi P C w H Φ s.obj av u/\YN P a w v u:=by
 unfold Ml at h
 split at h
 ·rename_i t
  split at h
  ·rename_i av vy
   exact⟨av,_,h,hs.ts t av vy,rfl⟩
  ·cases h
 ·rename_i t T
  split at h
  ·rename_i av vy
   obtain⟨bv,u,h,hr,ad,hv,hrun⟩:=BM ae hs (hs.ts t av vy) h
   refine⟨bv,u,h,hr,?_⟩
   unfold YN
   simp[hv,asAddr,hrun]
  ·cases h
theorem qlK(g:ResultVar->Sem Value):∀(l:List ResultVar) (us:List Value),dl (λv u=>(g v).run P w = .ok u w) l us->(l.mapM g).run P w = .ok us w
 |[],us,h=>by match us,h with|[],_=>simp
 |v::l,us,h=>by
  match us,h with
  |u::us,h=>
   have h1:=h.1
   simp only at h1
   rw[List.mapM_cons]
   simp only[Sem.run_bind,h1,Result.andThen_ok,qlK g l us h.2]
   simp
  |[],h=>exact h.elim
theorem qoh(g:ResultVar->Sem Value)(l:Array ResultVar)(us:List Value)(h:dl (λv u=>(g v).run P w = .ok u w) l.toList us):(l.mapM g).run P w = .ok us.toArray w:=by
 rw[Array.mapM_eq_mapM_toList]
 simp only[Sem.run_map,qlK g _ _ h,Result.andThen_ok]
theorem qe7{fn:Func}{us:List Value}(h:dl (YN P a w) fn.results.toList us):(results fn a.tmps).run P w = .ok (oD us) w:=by
 unfold results
 rw[Sem.run_bind,qoh _ fn.results us (dl.imp (λv u h=>by cases v<;>exact h) h)]
 simp only[Result.andThen_ok]
 match us with
 |[]=>simp[oD]
 |[u]=>simp[oD]
 |_::_::_=>simp[oD]
theorem qiB(s:St)(av:AV)(τ:Ty)(kk:τ.den->Option R):pU s av τ kk=(pU s av τ some).bind kk:=by
 unfold pU
 split
 ·simp[qj]
 ·split
  ·simp only[jJ,qj]
   cases qU _ _ _<;>simp
  ·rfl
 ·simp[qj]
 ·split
  ·rename_i o _
   cases o.row with
   |true=>rfl
   |false=>
    simp only[cond_false]
    split
    ·simp[qj]
    ·rfl
  ·rfl
 ·rfl
theorem qky{l r:List Nat}(h:apart l r=true){id:Nat}(aF:id∈l):id∉r:=(Kr h).2 id aF
theorem MB(ae:qx P aa)(hs:qh P C s a w H Φ):∀{vs:List ResultVar} {rs:List fk} {used:List Nat} {kk:bH rs->Option R},y_ aa s used vs rs kk=some r->
  ∃T hand:List Nat,(∀id∈T,id∉used)/\hand.Nodup/\(∀id∈hand,id∉used/\id∉T)/\∀Hf,H.le Hf->GG w Hf Φ s.obj T->
   ∃d us aJ,kk d=some r/\dl (YN P a w) vs us/\gv P w Hf rs d us aJ/\(qc aJ).Nodup/\∀b∈qc aJ,∃id∈hand,∃o,s.obj id=some o/\b∈(Φ id).fp
 |[],[],used,kk,h=>⟨[],[],by simp,by simp,by simp,λHf _ _=>⟨(),[],[],h,trivial,⟨rfl,rfl⟩,by simp[qc],by simp[qc]⟩⟩
 |[],.v _::_,_,_,h=>by cases h
 |[],.own _ _::_,_,_,h=>by cases h
 |[],.iu _::_,_,_,h=>by cases h
 |[],.ir _::_,_,_,h=>by cases h
 |[],.sure _ _ _::_,_,_,h=>by cases h
 |_::_,[],_,_,h=>by cases h
 |v::vs,.v τ::rs,used,kk,h=>by
  simp only[y_]at h
  obtain⟨av,u,h,hr,hrun⟩:=Uv ae hs h
  cases hap:apart av.aK used with
  |false=>rw[hap]at h;cases h
  |true=>
  rw[hap,cond_true]at h
  rw[qiB]at h
  replace h:=Option.bind_eq_some_iff.1 h
  obtain⟨x,hsn,hx⟩:=h
  obtain⟨T,hand,t1,t2,t3,t4⟩:=MB ae hs hx
  refine⟨av.aK++T,hand,?_,t2,?_,?_⟩
  ·intro id aF
   rcases List.mem_append.1 aF with aF|aF
   ·exact qky hap aF
   ·exact λhu=>t1 id aF (List.mem_append.2 (.inr hu))
  ·intro id aF
   obtain⟨q1,q2⟩:=t3 id aF
   refine⟨λhu=>q1 (List.mem_append.2 (.inr hu)),λhu=>?_⟩
   rcases List.mem_append.1 hu with hu|hu
   ·exact q1 (List.mem_append.2 (.inl hu))
   ·exact q2 hu
  ·intro Hf hle hf
   obtain⟨hfz,x2,hx2,fV⟩:=ME hs hle (FH.le_refl Hf) (λid aF=>hf id (by simp[aF])) (.inl hr) hsn
   cases hx2
   obtain⟨d,us,aJ,g1,g2,g3,g4,g5⟩:=t4 Hf hle (λid aF=>hf id (by simp[aF]))
   exact⟨(x,d),u::us,qA::aJ,g1,⟨hrun,g2⟩,⟨u,us,qA,aJ,rfl,rfl,hfz,rfl,fV,g3⟩,by simpa[qc,qA]using g4,by simpa[qc,qA]using g5⟩
 |v::vs,.own tid e::rs,used,kk,h=>by
  simp only[y_]at h
  obtain⟨av,u,h,hr,hrun⟩:=Uv ae hs h
  split at h
  case h_2=>cases h
  rename_i id p
  cases hu:j4 id used with
  |true=>rw[hu]at h;cases h
  |false=>
  rw[hu,cond_false]at h
  have IC:id∉used:=λhm=>by rw[Gs.2 hm]at hu;cases hu
  split at h
  case h_2=>cases h
  rename_i o ho
  rw[jJ]at h
  replace h:=Option.bind_eq_some_iff.1 h
  obtain⟨y,hy,h⟩:=h
  rw[qj]at h
  replace h:=Option.bind_eq_some_iff.1 h
  obtain⟨x,hx,h⟩:=h
  obtain⟨T,hand,t1,t2,t3,t4⟩:=MB ae hs h
  have hok:=(hs.os id o ho).1
  obtain⟨cs,fp,hv,an,hsub,jb⟩:=wA hr ho hok hy
  obtain⟨σ,y⟩:=y
  obtain⟨e1,hx⟩:=qg hx
  simp only at e1
  subst e1
  subst hx
  have Gx:=Gl _ hok.1 hy
  obtain⟨ax,xs,aC,rfl,rfl,k3,k4⟩:=an
  refine⟨T,id::hand,λj hj hm=>t1 j hj (List.mem_cons_of_mem _ hm),?_,?_,?_⟩
  ·exact List.nodup_cons.2 ⟨λhm=>(t3 id hm).1 List.mem_cons_self,t2⟩
  ·intro j hj
   rcases List.mem_cons.1 hj with rfl|hj
   ·exact⟨IC,λhm=>t1 j hm List.mem_cons_self⟩
   ·exact⟨λhm=>(t3 j hj).1 (List.mem_cons_of_mem _ hm),(t3 j hj).2⟩
  ·intro Hf hle hf
   obtain⟨d,us,aJ,g1,g2,g3,g4,g5⟩:=t4 Hf hle hf
   have gl:u=ax:=hv
   refine⟨(_,d),u::us,⟨0,ax,ax.ownBlock.toList++aC⟩::aJ,g1,⟨hrun,g2⟩,⟨u,us,_,aJ,rfl,rfl,gl,qR.eX Gx jb (qm.mono _ hle (λ_ _=>rfl) ⟨ax,xs,aC,rfl,rfl,k3,k4⟩),g3⟩,?_,?_⟩
   ·have:qc (⟨0,ax,ax.ownBlock.toList++aC⟩::aJ)=(ax.ownBlock.toList++aC)++qc aJ:=by simp[qc]
    rw[this,List.nodup_append]
    refine⟨jb,g4,?_⟩
    rintro b hb _ hb' rfl
    obtain⟨j,hj,o',ho',dY⟩:=g5 b hb'
    exact hs.aN id j o o' (by rintro rfl;exact(t3 id hj).1 List.mem_cons_self) ho ho' b (hsub b hb) dY
   ·intro b hb
    have:qc (⟨0,ax,ax.ownBlock.toList++aC⟩::aJ)=(ax.ownBlock.toList++aC)++qc aJ:=by simp[qc]
    rw[this]at hb
    rcases List.mem_append.1 hb with hb|hb
    ·exact⟨id,List.mem_cons_self,o,ho,hsub b hb⟩
    ·obtain⟨j,hj,o',ho',dY⟩:=g5 b hb
     exact⟨j,List.mem_cons_of_mem _ hj,o',ho',dY⟩
 |v::vs,.ir τ::rs,used,kk,h=>by
  simp only[y_]at h
  obtain⟨av,u,h,hr,hrun⟩:=Uv ae hs h
  split at h
  case h_2=>cases h
  rename_i id p
  cases hu0:j4 id used || !TB τ with
  |true=>rw[hu0]at h;cases h
  |false=>
  rw[hu0,cond_false]at h
  rw[Bool.or_eq_false_iff,Bool.not_eq_false']at hu0
  obtain⟨hu,hrow⟩:=hu0
  have IC:id∉used:=λhm=>by rw[Gs.2 hm]at hu;cases hu
  split at h
  case h_2=>cases h
  rename_i o ho
  rw[jJ]at h
  replace h:=Option.bind_eq_some_iff.1 h
  obtain⟨y,hy,h⟩:=h
  rw[qj]at h
  replace h:=Option.bind_eq_some_iff.1 h
  obtain⟨x,hx,h⟩:=h
  obtain⟨T,hand,t1,t2,t3,t4⟩:=MB ae hs h
  have hok:=(hs.os id o ho).1
  obtain⟨cs,fp,hv,an,hsub,jb⟩:=wA hr ho hok hy
  obtain⟨σ,y⟩:=y
  obtain⟨e1,hx⟩:=qg hx
  simp only at e1
  subst e1
  subst hx
  have Gx:=Gl _ hok.1 hy
  refine⟨T,id::hand,λj hj hm=>t1 j hj (List.mem_cons_of_mem _ hm),?_,?_,?_⟩
  ·exact List.nodup_cons.2 ⟨λhm=>(t3 id hm).1 List.mem_cons_self,t2⟩
  ·intro j hj
   rcases List.mem_cons.1 hj with rfl|hj
   ·exact⟨IC,λhm=>t1 j hm List.mem_cons_self⟩
   ·exact⟨λhm=>(t3 j hj).1 (List.mem_cons_of_mem _ hm),(t3 j hj).2⟩
  ·intro Hf hle hf
   obtain⟨d,us,aJ,g1,g2,g3,g4,g5⟩:=t4 Hf hle hf
   refine⟨(_,d),u::us,⟨0,u,fp⟩::aJ,g1,⟨hrun,g2⟩,⟨u,us,_,aJ,rfl,rfl,rfl,⟨Gx,jb,hrow,cs,hv,qm.mono _ hle (λ_ _=>rfl) an⟩,g3⟩,?_,?_⟩
   ·have:qc (⟨0,u,fp⟩::aJ)=fp++qc aJ:=by simp[qc]
    rw[this,List.nodup_append]
    refine⟨jb,g4,?_⟩
    rintro b hb _ hb' rfl
    obtain⟨j,hj,o',ho',dY⟩:=g5 b hb'
    exact hs.aN id j o o' (by rintro rfl;exact(t3 id hj).1 List.mem_cons_self) ho ho' b (hsub b hb) dY
   ·intro b hb
    have:qc (⟨0,u,fp⟩::aJ)=fp++qc aJ:=by simp[qc]
    rw[this]at hb
    rcases List.mem_append.1 hb with hb|hb
    ·exact⟨id,List.mem_cons_self,o,ho,hsub b hb⟩
    ·obtain⟨j,hj,o',ho',dY⟩:=g5 b hb
     exact⟨j,List.mem_cons_of_mem _ hj,o',ho',dY⟩
 |v::vs,.iu τ::rs,used,kk,h=>by
  simp only[y_]at h
  obtain⟨av,u,h,hr,hrun⟩:=Uv ae hs h
  split at h
  case h_2=>cases h
  rename_i id
  cases hu:j4 id used with
  |true=>rw[hu]at h;cases h
  |false=>
  rw[hu,cond_false]at h
  have IC:id∉used:=λhm=>by rw[Gs.2 hm]at hu;cases hu
  split at h
  case h_2=>cases h
  rename_i o ho
  obtain⟨row,σ,x0⟩:=o
  cases row with
  |true=>cases h
  |false=>
  simp only[cond_false,qj]at h
  replace h:=Option.bind_eq_some_iff.1 h
  obtain⟨x,hx,h⟩:=h
  obtain⟨T,hand,t1,t2,t3,t4⟩:=MB ae hs h
  have hok:=(hs.os id _ ho).1
  obtain⟨e1,hx⟩:=qg hx
  subst e1
  subst hx
  obtain⟨o2,y2,b,off,q1,_,_,q4,q5⟩:=hr
  rw[ho]at q1
  cases q1
  obtain⟨rfl,rfl⟩:=jT.fN _ q4 (kV w σ (Φ id).b 0)
  refine⟨T,id::hand,λj hj hm=>t1 j hj (List.mem_cons_of_mem _ hm),?_,?_,?_⟩
  ·exact List.nodup_cons.2 ⟨λhm=>(t3 id hm).1 List.mem_cons_self,t2⟩
  ·intro j hj
   rcases List.mem_cons.1 hj with rfl|hj
   ·exact⟨IC,λhm=>t1 j hm List.mem_cons_self⟩
   ·exact⟨λhm=>(t3 j hj).1 (List.mem_cons_of_mem _ hm),(t3 j hj).2⟩
  ·intro Hf hle hf
   obtain⟨d,us,aJ,g1,g2,g3,g4,g5⟩:=t4 Hf hle hf
   have KZ:qc (Φ id::aJ)=(Φ id).fp++qc aJ:=by simp[qc]
   refine⟨(_,d),u::us,Φ id::aJ,g1,⟨hrun,g2⟩,⟨u,us,_,aJ,rfl,rfl,q5,hok.frame hle (λ_ _=>rfl),g3⟩,?_,?_⟩
   ·rw[KZ,List.nodup_append]
    refine⟨hok.2.1,g4,?_⟩
    rintro b hb _ hb' rfl
    obtain⟨j,hj,o',ho',dY⟩:=g5 b hb'
    exact hs.aN id j _ o' (by rintro rfl;exact(t3 id hj).1 List.mem_cons_self) ho ho' b hb dY
   ·intro b hb
    rw[KZ]at hb
    rcases List.mem_append.1 hb with hb|hb
    ·exact⟨id,List.mem_cons_self,_,ho,hb⟩
    ·obtain⟨j,hj,o',ho',dY⟩:=g5 b hb
     exact⟨j,List.mem_cons_of_mem _ hj,o',ho',dY⟩
 |v::vs,.sure nn tid e::rs,used,kk,h=>by
  simp only[y_]at h
  obtain⟨av,u,h,hr,hrun⟩:=Uv ae hs h
  split at h
  case h_2=>cases h
  rename_i id
  cases hu:j4 id used || !Mu id nn with
  |true=>rw[hu]at h;cases h
  |false=>
  rw[hu,cond_false]at h
  rw[Bool.or_eq_false_iff,Bool.not_eq_false']at hu
  have IC:id∉used:=λhm=>by rw[Gs.2 hm]at hu;cases hu.1
  split at h
  case h_2=>cases h
  rename_i o ho
  obtain⟨row,σ,x0⟩:=o
  cases row with
  |false=>cases h
  |true=>
  simp only[cond_true,qj]at h
  replace h:=Option.bind_eq_some_iff.1 h
  obtain⟨x,hx,h⟩:=h
  obtain⟨T,hand,t1,t2,t3,t4⟩:=MB ae hs h
  have hok:=(hs.os id _ ho).1
  obtain⟨e1,hx⟩:=qg hx
  subst e1
  subst hx
  obtain⟨o2,y2,q1,_,q5⟩:=hr
  rw[ho]at q1
  cases q1
  simp only[List.isEmpty_nil,Bool.and_self]at q5
  have hsv:=qix hu.2 (hs.pins.2 id)
  refine⟨T,id::hand,λj hj hm=>t1 j hj (List.mem_cons_of_mem _ hm),?_,?_,?_⟩
  ·exact List.nodup_cons.2 ⟨λhm=>(t3 id hm).1 List.mem_cons_self,t2⟩
  ·intro j hj
   rcases List.mem_cons.1 hj with rfl|hj
   ·exact⟨IC,λhm=>t1 j hm List.mem_cons_self⟩
   ·exact⟨λhm=>(t3 j hj).1 (List.mem_cons_of_mem _ hm),(t3 j hj).2⟩
  ·intro Hf hle hf
   obtain⟨d,us,aJ,g1,g2,g3,g4,g5⟩:=t4 Hf hle hf
   have KZ:qc (Φ id::aJ)=(Φ id).fp++qc aJ:=by simp[qc]
   refine⟨(_,d),u::us,Φ id::aJ,g1,⟨hrun,g2⟩,⟨u,us,_,aJ,rfl,rfl,q5,hok.frame hle (λ_ _=>rfl),hsv,g3⟩,?_,?_⟩
   ·rw[KZ,List.nodup_append]
    refine⟨hok.2.1,g4,?_⟩
    rintro b hb _ hb' rfl
    obtain⟨j,hj,o',ho',dY⟩:=g5 b hb'
    exact hs.aN id j _ o' (by rintro rfl;exact(t3 id hj).1 List.mem_cons_self) ho ho' b hb dY
   ·intro b hb
    rw[KZ]at hb
    rcases List.mem_append.1 hb with hb|hb
    ·exact⟨id,List.mem_cons_self,_,ho,hb⟩
    ·obtain⟨j,hj,o',ho',dY⟩:=g5 b hb
     exact⟨j,List.mem_cons_of_mem _ hj,o',ho',dY⟩
end
end Go.Vi
namespace Go.Vi
section
variable {P:Program} {C:cM} {aa:jB} {s:St} {a:Act} {w:World} {H:FH} {Φ:Nat->qH}
theorem zm:∀{ps:List j3} {i:Nat},(∀id∈kK ps i,pid i<=id)/\(kK ps i).Nodup
 |[],_=>⟨by simp[kK],by simp[kK]⟩
 |.v _::ps,i=>by
  obtain⟨h1,h2⟩:=zm (ps:=ps) (i:=i+1)
  exact⟨λid aF=>Nat.le_trans (Nat.le_of_lt (jx (Nat.lt_add_one i))) (h1 id aF),h2⟩
 |.r _::ps,i=>by
  obtain⟨h1,h2⟩:=zm (ps:=ps) (i:=i+1)
  exact⟨λid aF=>Nat.le_trans (Nat.le_of_lt (jx (Nat.lt_add_one i))) (h1 id aF),h2⟩
 |.c _::ps,i=>by
  obtain⟨h1,h2⟩:=zm (ps:=ps) (i:=i+1)
  exact⟨λid aF=>Nat.le_trans (Nat.le_of_lt (jx (Nat.lt_add_one i))) (h1 id aF),h2⟩
 |.m _::ps,i=>by
  obtain⟨h1,h2⟩:=zm (ps:=ps) (i:=i+1)
  have hlt:pid i<pid (i+1):=jx (Nat.lt_add_one i)
  refine⟨λid aF=>?_,List.nodup_cons.2 ⟨λhm=>?_,h2⟩⟩
  ·rcases List.mem_cons.1 aF with rfl|aF
   ·exact Nat.le_refl _
   ·exact Nat.le_trans (Nat.le_of_lt hlt) (h1 id aF)
  ·have:=h1 _ hm;omega
 |.mr _ _::ps,i=>by
  obtain⟨h1,h2⟩:=zm (ps:=ps) (i:=i+1)
  have hlt:pid i<pid (i+1):=jx (Nat.lt_add_one i)
  refine⟨λid aF=>?_,List.nodup_cons.2 ⟨λhm=>?_,h2⟩⟩
  ·rcases List.mem_cons.1 aF with rfl|aF
   ·exact Nat.le_refl _
   ·exact Nat.le_trans (Nat.le_of_lt hlt) (h1 id aF)
  ·have:=h1 _ hm;omega
 |.t _ _::ps,i=>by
  obtain⟨h1,h2⟩:=zm (ps:=ps) (i:=i+1)
  exact⟨λid aF=>Nat.le_trans (Nat.le_of_lt (jx (Nat.lt_add_one i))) (h1 id aF),h2⟩
 |.gm _::ps,i=>by
  obtain⟨h1,h2⟩:=zm (ps:=ps) (i:=i+1)
  exact⟨λid aF=>Nat.le_trans (Nat.le_of_lt (jx (Nat.lt_add_one i))) (h1 id aF),h2⟩
 |.cm _ _::ps,i=>by
  obtain⟨h1,h2⟩:=zm (ps:=ps) (i:=i+1)
  have hlt:pid i<pid (i+1):=jx (Nat.lt_add_one i)
  refine⟨λid aF=>?_,List.nodup_cons.2 ⟨λhm=>?_,h2⟩⟩
  ·rcases List.mem_cons.1 aF with rfl|aF
   ·exact Nat.le_refl _
   ·exact Nat.le_trans (Nat.le_of_lt hlt) (h1 id aF)
  ·have:=h1 _ hm;omega
theorem zn(hs:qh P C s a w H Φ){Hf:FH}(hle:H.le Hf){w0:World}{H0:FH}:∀{ps:List j3} {i:Nat} {d:aI ps} {vs:List Value} {ai:List qH} {md:aV ps},jU P w0 H0 ps d vs ai->
  (∀x∈dA ps ai i,(Φ x.1).b=x.2.b/\(Φ x.1).ax=x.2.ax)->jC s ps i=some md->∃ag,jR P w Hf ps md vs ag/\qc ag=(kK ps i).flatMap (λid=>(Φ id).fp)/\∀id∈kK ps i,∃o,s.obj id=some o
 |[],i,d,vs,ai,md,ha,_,h=>by
  obtain⟨rfl,rfl⟩:=ha
  exact⟨[],⟨rfl,rfl⟩,rfl,by simp[kK]⟩
 |.v τ::ps,i,d,vs,ai,md,ha,hp,h=>by
  obtain⟨v,vs',φ,ag,rfl,rfl,_,_,_,ha⟩:=ha
  obtain⟨Ψ,h1,h2,h3⟩:=zn hs hle (i:=i+1) ha hp h
  exact⟨qA::Ψ,⟨v,vs',qA,Ψ,rfl,rfl,rfl,h1⟩,by simpa[qc,qA,kK]using h2,h3⟩
 |.r τ::ps,i,d,vs,ai,md,ha,hp,h=>by
  obtain⟨v,vs',φ,ag,rfl,rfl,_,_,_,ha⟩:=ha
  obtain⟨Ψ,h1,h2,h3⟩:=zn hs hle (i:=i+1) ha hp h
  exact⟨qA::Ψ,⟨v,vs',qA,Ψ,rfl,rfl,rfl,h1⟩,by simpa[qc,qA,kK]using h2,h3⟩
 |.c _::ps,i,d,vs,ai,md,ha,hp,h=>by
  obtain⟨v,vs',φ,ag,rfl,rfl,_,_,_,ha⟩:=ha
  obtain⟨Ψ,h1,h2,h3⟩:=zn hs hle (i:=i+1) ha hp h
  exact⟨qA::Ψ,⟨v,vs',qA,Ψ,rfl,rfl,rfl,h1⟩,by simpa[qc,qA,kK]using h2,h3⟩
 |.m τ::ps,i,d,vs,ai,md,ha,hp,h=>by
  obtain⟨v,vs',φ,ag,rfl,rfl,hv,_,ha⟩:=ha
  simp only[jC]at h
  split at h
  case h_2=>cases h
  rename_i o ho
  obtain⟨row,σ,x0⟩:=o
  cases row with
  |true=>cases h
  |false=>
  simp only[cond_false]at h
  split at h
  case h_2=>cases h
  rename_i x d' hx dK
  cases h
  obtain⟨e1,hx⟩:=qg hx
  subst e1
  subst hx
  obtain⟨Ψ,h1,h2,h3⟩:=zn hs hle (i:=i+1) ha (λx hx=>hp x (List.mem_cons_of_mem _ hx)) dK
  have hb:=(hp (pid i,φ) List.mem_cons_self).1
  simp only at hb
  refine⟨Φ (pid i)::Ψ,⟨v,vs',_,Ψ,rfl,rfl,by rw[hb];exact hv,(hs.os _ _ ho).1.frame hle (λ_ _=>rfl),h1⟩,by simpa[qc,kK]using h2,?_⟩
  intro id aF
  rcases List.mem_cons.1 aF with rfl|aF
  ·exact⟨_,ho⟩
  ·exact h3 id aF
 |.mr tid e::ps,i,d,vs,ai,md,ha,hp,h=>by
  obtain⟨v,vs',φ,ag,rfl,rfl,hv,_,ha⟩:=ha
  simp only[jC]at h
  split at h
  case h_2=>cases h
  rename_i o ho
  obtain⟨row,σ,x0⟩:=o
  cases row with
  |false=>cases h
  |true=>
  simp only[cond_true]at h
  split at h
  case h_2=>cases h
  rename_i x d' hx dK
  cases h
  obtain⟨e1,hx⟩:=qg hx
  subst e1
  subst hx
  obtain⟨Ψ,h1,h2,h3⟩:=zn hs hle (i:=i+1) ha (λx hx=>hp x (List.mem_cons_of_mem _ hx)) dK
  have hb:=(hp (pid i,φ) List.mem_cons_self).2
  simp only at hb
  refine⟨Φ (pid i)::Ψ,⟨v,vs',_,Ψ,rfl,rfl,by rw[hb];exact hv,(hs.os _ _ ho).1.frame hle (λ_ _=>rfl),h1⟩,by simpa[qc,kK]using h2,?_⟩
  intro id aF
  rcases List.mem_cons.1 aF with rfl|aF
  ·exact⟨_,ho⟩
  ·exact h3 id aF
 |.t tid e::ps,i,d,vs,ai,md,ha,hp,h=>by
  obtain⟨v,vs',φ,ag,rfl,rfl,_,_,ha⟩:=ha
  obtain⟨Ψ,h1,h2,h3⟩:=zn hs hle (i:=i+1) ha (λx hx=>hp x (List.mem_cons_of_mem _ hx)) h
  exact⟨qA::Ψ,⟨v,vs',qA,Ψ,rfl,rfl,rfl,h1⟩,by simpa[qc,qA,kK]using h2,h3⟩
 |.gm _::ps,i,d,vs,ai,md,ha,hp,h=>by
  obtain⟨v,vs',φ,ag,rfl,rfl,_,_,ha⟩:=ha
  obtain⟨Ψ,h1,h2,h3⟩:=zn hs hle (i:=i+1) ha (λx hx=>hp x (List.mem_cons_of_mem _ hx)) h
  exact⟨qA::Ψ,⟨v,vs',qA,Ψ,rfl,rfl,rfl,h1⟩,by simpa[qc,qA,kK]using h2,h3⟩
 |.cm f τ::ps,i,d,vs,ai,md,ha,hp,h=>by
  obtain⟨v,vs',φ,ag,rfl,rfl,hv,_,ha⟩:=ha
  simp only[jC]at h
  split at h
  case h_2=>cases h
  rename_i o ho
  obtain⟨row,σ,x0⟩:=o
  cases row with
  |true=>cases h
  |false=>
  simp only[cond_false]at h
  split at h
  case h_2=>cases h
  rename_i x d' hx dK
  cases h
  obtain⟨e1,hx⟩:=qg hx
  subst e1
  subst hx
  obtain⟨Ψ,h1,h2,h3⟩:=zn hs hle (i:=i+1) ha (λx hx=>hp x (List.mem_cons_of_mem _ hx)) dK
  have hb:=(hp (pid i,φ) List.mem_cons_self).1
  simp only at hb
  refine⟨Φ (pid i)::Ψ,⟨v,vs',_,Ψ,rfl,rfl,by rw[hb];exact hv,(hs.os _ _ ho).1.frame hle (λ_ _=>rfl),h1⟩,by simpa[qc,kK]using h2,?_⟩
  intro id aF
  rcases List.mem_cons.1 aF with rfl|aF
  ·exact⟨_,ho⟩
  ·exact h3 id aF
def qn7(gh:Nat->Option Value)(w:World)(H:FH)(nt:Nat)(ps:List j3)(ai:List qH):cM:=⟨w,(· ∈qc ai),H,nt,lk (dA ps ai 0),[],gh⟩
theorem OI(ae:qx P aa){gh:Nat->Option Value}{fn:Func}{p:qS}{d:aI p.ps}{y:bH p.rs×aV p.ps}{vs:List Value}{ai:List qH}(hargs:jU P w H p.ps d vs ai){a':Act}{w':World}{H2:FH}{jj:Nat->qH}
  (hs:qh P (qn7 gh w H aa.nt p.ps ai) s a' w' H2 jj) (h:JV aa fn p.ps p.rs .ret s=some y):
  a'.defers=[]/\∃v,(results fn a'.tmps).run P w' = .ok v w'/\∃us H' ag aJ,Ending.returned v = .returned (oD us)/\jO (· ∈qc ai) w w'/\H.le H'/\cI H' w'/\(∀b c,H' b=some c->H b=some c\/b∈qc ai\/w.heap.size<=b)/\
    gv P w' H' p.rs y.1 us aJ/\jR P w' H' p.ps y.2 vs ag/\(qc (aJ++ag)).Nodup/\∀b∈qc (aJ++ag),H' b=none/\(b∈qc ai\/w.heap.size<=b)/\b<w'.heap.size:=by
 obtain⟨_,_,_,h4,_⟩:=vl (C:=sK w H aa.nt p.ps ai) 0 hargs
 simp only[JV]at h
 split at h
 case h_2=>cases h
 rename_i md yl
 obtain⟨T,hand,t1,t2,t3,t4⟩:=MB ae hs h
 obtain⟨Hf,m1,m2,m3,m4,m5⟩:=qh.aQ T hs
 obtain⟨d',us,aJ,g1,g2,g3,g4,g5⟩:=t4 Hf m1 m3
 cases g1
 obtain⟨ag,k1,k2,k3⟩:=zn hs m1 (i:=0) hargs (λx hx=>by
  obtain⟨id,φ⟩:=x
  have dN:(qn7 gh w H aa.nt p.ps ai).gQ id=some φ:=FW h4 hx
  exact hs.pins.1 id φ dN) yl
 have vv:=zm (ps:=p.ps) (i:=0)
 have kF:qc (aJ++ag)=qc aJ++qc ag:=by simp[qc]
 have bh:∀id,id∉T->∀o,s.obj id=some o->∀b∈(jj id).fp,Hf b=none/\(b∈qc ai\/w.heap.size<=b)/\b<w'.heap.size:=by
  intro id aF o ho b hb'
  obtain⟨q1,q2,q3⟩:=(hs.os id o ho).2 b hb'
  refine⟨?_,q2,q3⟩
  cases hq:Hf b with
  |none=>rfl
  |some c=>
   rcases m2 b c hq with h1|⟨j,hj,o',ho',dY⟩
   ·rw[q1]at h1;cases h1
   ·exact absurd dY (hs.aN id j o o' (by rintro rfl;exact aF hj) ho ho' b hb')
 refine⟨hs.defers,_,qe7 g2,us,Hf,ag,aJ,rfl,hs.mod,FH.le_trans hs.le m1,m4.hok,m4.hnew,g3,k1,?_,?_⟩
 ·rw[kF,List.nodup_append]
  refine⟨g4,?_,?_⟩
  ·rw[k2]
   refine Hw vv.2 (λid aF=>?_) (λi hi j hj hij b hb'=>?_)
   ·obtain⟨o,ho⟩:=k3 id aF
    exact(hs.os id o ho).1.2.1
   ·obtain⟨o,ho⟩:=k3 i hi
    obtain⟨o',ho'⟩:=k3 j hj
    exact hs.aN i j o o' hij ho ho' b hb'
  ·rintro b kG _ cO rfl
   obtain⟨i,hi,o,ho,yt⟩:=g5 b kG
   rw[k2]at cO
   obtain⟨j,hj,dY⟩:=List.mem_flatMap.1 cO
   obtain⟨o',ho'⟩:=k3 j hj
   exact hs.aN i j o o' (by rintro rfl;exact(t3 i hi).1 hj) ho ho' b yt dY
 ·intro b hb'
  rw[kF]at hb'
  rcases List.mem_append.1 hb' with kG|cO
  ·obtain⟨i,hi,o,ho,yt⟩:=g5 b kG
   exact bh i (t3 i hi).2 o ho b yt
  ·rw[k2]at cO
   obtain⟨j,hj,dY⟩:=List.mem_flatMap.1 cO
   obtain⟨o',ho'⟩:=k3 j hj
   exact bh j (λhT=>t1 j hT hj) o' ho' b dY
theorem Dc(hm:P.follows .mixedOrders=true)(ae:qx P aa){f:FuncId}{fn:Func}{c:Code}(hf:P.funcs[f]? = some fn)(hb:fn.body=some c)(hnt:fn.ntmps=aa.nt)(hl:pX aa c)(hd:qs aa c=true)
  {p:qS} (hps:p.ps.length<=aa.nt) (hg:∀d y,p.g d=some y->∃n,qL aa n fn c p.ps p.rs d=some y):TG P f p:=by
 intro d y hy w H vs ai hok hargs aq hfr
 obtain⟨n,hn⟩:=hg d y hy
 refine calls_of_wp hf hb ?_
 rw[hnt]
 have bE:=Zn hok hargs aq hfr hps
 have hC:=qhu (aa:=aa) hargs
 refine wp_mono (Gd hm ae hC c hl hd ⟨H,_,bE,trivial⟩ hn) ?_
 have fin:∀(s:St) (a':Act) (w':World),dS P (sK w H aa.nt p.ps ai) s a' w'->JV aa fn p.ps p.rs .ret s=some y->
   a'.defers=[]/\∃v,(results fn a'.tmps).run P w' = .ok v w'/\∃us H' ag aJ,Ending.returned v = .returned (oD us)/\jO (· ∈qc ai) w w'/\H.le H'/\cI H' w'/\(∀b c,H' b=some c->H b=some c\/b∈qc ai\/w.heap.size<=b)/\
    gv P w' H' p.rs y.1 us aJ/\jR P w' H' p.ps y.2 vs ag/\(qc (aJ++ag)).Nodup/\∀b∈qc (aJ++ag),H' b=none/\(b∈qc ai\/w.heap.size<=b)/\b<w'.heap.size:=by
  rintro s a' w' ⟨H2,jj,hs⟩ h
  exact OI (gh:=λ_=>none) ae hargs hs h
 intro e a' w' hp
 cases e with
 |normal=>obtain⟨s,hs,h⟩:=hp;exact fin s a' w' hs.pM h
 |ret=>obtain⟨s,hs,h⟩:=hp;exact fin s a' w' hs.pM h
 |exit i=>obtain⟨s,hs,h⟩:=hp;cases h
 |_=>exact hp.elim
theorem qX{f:FuncId}{fn:Func}{c:Code}(hf:P.funcs[f]? = some fn)(hb:fn.body=some c)(hn:(fn.name == "runtime.NumGoroutine")=false):jD P f:=⟨fn,hf,hn,by rw[hb];rfl⟩
end
end Go.Vi
namespace Go.Vi
theorem Ii{R:Type}{n:Nat}{k:Bool->Option R}{r:R}(h1:n=0->k true=some r)(h2:k false=some r):BC n k=some r:=by
 unfold BC
 cases h:Nat.beq n 0 with
 |true=>exact Yz true trivial (λb _=>match b with
  |true=>h1 (Nat.eq_of_beq_eq_true h)
  |false=>h2)
 |false=>exact h2
def qk:Nat:=18446744073709551616
def vg{α R:Type}(x:α)(k:α->Option R):Option R:=k x
theorem Gg{R:Type}(x:Option R):qv [x]=x:=by
 cases x with
 |some r=>exact qoM (λy hy=>List.mem_singleton.1 hy)
 |none=>
  cases h:qv [(none:Option R)]with
  |none=>rfl
  |some r=>exact(qh4 h none (List.mem_singleton.2 rfl)).symm
theorem Gh{R:Type}(x:Option R)(l:List (Option R)):qv (x::x::l)=qv (x::l):=by
 unfold qv
 congr 1
 funext y
 simp
def sF{α R:Type}(x:α)(k:α->Option R):Option R:=k x
def body(f:Func):Code:=match f.body with|some c=>c|none=>.skip
def qe:Code->List Code
 |.seq a b=>qe a++qe b
 |.cond _ a b=>qe a++qe b
 |.block _ c=>qe c
 |.loop c=>c::qe c
 |_=>[]
def nth(i:Nat)(l:List Code):Code:=match l[i]? with|some c=>c|none=>.skip
def Kk(aa:jB)(b:Code):Prop:=(∀key li,sM b=some key->lk aa.loops key=some li->D_ aa li b)/\∀key lw,sM b=some key->lk aa.loops key=none->lk aa.pG key=some lw->qob aa lw b
theorem qP{aa:jB}{b:Code}{key:Nat}{li:jL}(h1:sM b=some key)(h2:lk aa.loops key=some li)(h3:∀d,li.g 0 d=none)(h4:∀n d,li.g (n+1) d=run aa n b (li.ins.fill d) (qV li n)):Kk aa b:=by
 refine⟨?_,?_⟩
 ·intro key' li' e1 e2
  rw[h1]at e1
  cases e1
  rw[h2]at e2
  cases e2
  exact⟨h3,h4⟩
 ·intro key' lw' e1 e2
  rw[h1]at e1
  cases e1
  rw[h2]at e2
  cases e2
theorem BH{aa:jB}{b:Code}{key:Nat}{lw:Tu}(h1:sM b=some key)(h0:lk aa.loops key=none)(h2:lk aa.pG key=some lw)(h3:∀d S,lw.w 0 d S=none)(h4:∀n d S,lw.w (n+1) d S=run aa n b (lw.ins.fill d) (qc3 lw n S)):Kk aa b:=by
 refine⟨?_,?_⟩
 ·intro key' li' e1 e2
  rw[h1]at e1
  cases e1
  rw[h0]at e2
  cases e2
 ·intro key' lw' e1 _ e2
  rw[h1]at e1
  cases e1
  rw[h2]at e2
  cases e2
  exact⟨h3,h4⟩
theorem qE{aa:jB}{c:Code}(h:qe c=[]):∀b∈qe c,Kk aa b:=by
 intro b hb
 rw[h]at hb
 cases hb
theorem xQ{aa:jB}:∀{c:Code},(∀b∈qe c,Kk aa b)->pX aa c
 |.seq _a _b,h=>⟨xQ λx hx=>h x (List.mem_append.2 (.inl hx)),xQ λx hx=>h x (List.mem_append.2 (.inr hx))⟩
 |.cond _ _a _b,h=>⟨xQ λx hx=>h x (List.mem_append.2 (.inl hx)),xQ λx hx=>h x (List.mem_append.2 (.inr hx))⟩
 |.block _ c,h=>xQ (c:=c) h
 |.loop c,h=>⟨xQ λx hx=>h x (List.mem_cons_of_mem _ hx),h c List.mem_cons_self⟩
 |.skip,_=>trivial
 |.region _ _ _,_=>trivial
 |.rangeFunc _ _ _ _,_=>trivial
 |.exit _,_=>trivial
 |.scope _,_=>trivial
 |.label _,_=>trivial
 |.goto _,_=>trivial
 |.ret,_=>trivial
 |.refuse _,_=>trivial
def qJ(P:Program)(f:Nat)(p:qS):Prop:=jD P f/\TG P f p
def Uf(P:Program)(l:List (Nat×qS)):Prop:=∀x∈l,qJ P x.1 x.2
theorem qq{P:Program}:Uf P []:=by intro x hx;cases hx
theorem qf{P:Program}{f:Nat}{p:qS}{l:List (Nat×qS)}(h:qJ P f p)(hl:Uf P l):Uf P ((f,p)::l):=by
 intro x hx
 rcases List.mem_cons.1 hx with rfl|hx
 ·exact h
 ·exact hl x hx
def Va(P:Program)(x:Nat×Nat×Nat):Bool:=
 (match P.underlying x.1 with|some (.map k e)=>Nat.beq k x.2.1&&Nat.beq e x.2.2|_=>false)&&(cQ P (.int .i64)).1 x.2.1&&(cQ P (.int .i64)).1 x.2.2
def Aa(P:Program)(l:List (Nat×Ty)):Bool:=l.all λx=>(cQ P x.2).1 x.1&&x.2.ay
theorem qz{P:Program}{aa:jB}(a_:Aa P aa.ty=true)(hp:Uf P aa.b_)(hs:Nat.ble aa.nt 2000=true)(hmap:aa.maps.all (Va P)=true)(hmk:∀f m,lk aa.iz f=some m->jD P f/\Hi P f m:=by intro _ _ h;cases h)(wW:Uf P aa.vI:=by intro _ h;cases h)(hkp:∀f m,lk aa.keeps f=some m->jD P f/\qls P f m:=by intro _ _ h;cases h)(hma:∀f m,lk aa.Sa f=some m->jD P f/\DN P f m:=by intro _ _ h;cases h)(hse:∀sp,aa.self=some sp->jD P sp.f/\DO P sp/\YT P sp.T=true:=by intro _ h;cases h)(hin:∀d il,lk aa.inl d=some il->DP P d il:=by intro _ _ h;cases h)(hky:∀i,j4 i aa.iM=true->nv P i:=by intro _ h;cases h)(hqu:∀q,aa.sx=some q->yG P q:=by intro _ h;cases h)(KH:∀q,aa.wh=some q->DL P q:=by intro _ h;cases h):qx P aa:=by
 refine⟨λt τ h=>?_,λf p h=>hp (f,p) (sL h),λf p h=>wW (f,p) (sL h),Nat.le_of_ble_eq_true hs,hmk,λT kt vt h=>?_,hkp,hma,hse,hin,hky,hqu,KH⟩
 ·have:=List.all_eq_true.1 a_ (t,τ) (sL h)
  rw[Bool.and_eq_true]at this
  exact this
 ·have:=List.all_eq_true.1 hmap (T,kt,vt) (sL h)
  unfold Va at this
  rw[Bool.and_eq_true,Bool.and_eq_true]at this
  obtain⟨⟨h1,h2⟩,h3⟩:=this
  refine⟨?_,h2,h3⟩
  simp only at h1
  split at h1
  ·rename_i k e hu
   rw[Bool.and_eq_true]at h1
   rw[hu,Nat.eq_of_beq_eq_true h1.1,Nat.eq_of_beq_eq_true h1.2]
  ·cases h1
theorem qnp{P:Program}{i:Nat}(h:nv P i):∀j,j4 j [i]=true->nv P j:=by
 intro j hj
 have hj:(Nat.beq i j||false)=true:=hj
 rw[Bool.or_false]at hj
 rw[<-Nat.eq_of_beq_eq_true hj]
 exact h
theorem qm2{P:Program}{q:XQ}(h:yG P q):∀q',some q=some q'->yG P q':=by
 intro q' e
 cases e
 exact h
theorem GQ{P:Program}{q:XS}(h:DL P q):∀q',some q=some q'->DL P q':=by
 intro q' e
 cases e
 exact h
theorem qn6{P:Program}{aa:jB}(hm:P.follows .mixedOrders=true)(ae:qx P aa){f:FuncId}{fn:Func}(hf:P.funcs[f]? = some fn)(hb:fn.body.isSome=true)(hnt:fn.ntmps=aa.nt)(hname:(fn.name == "runtime.NumGoroutine")=false)
  {p:qS} (hps:Nat.ble p.ps.length aa.nt=true) (hl:∀b∈qe (body fn),Kk aa b) (hd:qs aa (body fn)=true) (hg:∀d y,p.g d=some y->∃n,qL aa n fn (body fn) p.ps p.rs d=some y):qJ P f p:=by
 have cO:fn.body=some (body fn):=by
  unfold body
  cases h:fn.body with
  |none=>rw[h]at hb;cases hb
  |some c=>rfl
 exact⟨qX hf cO hname,Dc hm ae hf cO hnt (xQ hl) hd (Nat.le_of_ble_eq_true hps) hg⟩
end Go.Vi
namespace Go.Vi
open Go.Proofs Go.Shelf Go.Sort
section
variable {P:Program} {ρ:Ren}
theorem qh0{w:World}{H:FH}:∀{l:List Int} {xs:List Value} {fp:List Nat},qd (qm P (.int .i64) w H) l xs fp->xs=l.map (Value.int .i64)/\fp=[]
 |[],_,_,⟨e,e'⟩=>⟨e,e'⟩
 |_::l,_,_,⟨c,xs',f,aC,e1,e2,h1,h2⟩=>by
  obtain⟨h3,h4⟩:=qh0 h2
  rw[e1,e2,h3,h4,h1.1,h1.2]
  exact⟨rfl,rfl⟩
theorem qhM(w:World)(H:FH):∀(l:List Int),qd (qm P (.int .i64) w H) l (l.map (Value.int .i64)) []
 |[]=>⟨rfl,rfl⟩
 |x::l=>⟨[.int .i64 x],l.map (Value.int .i64),[],[],rfl,rfl,⟨rfl,rfl⟩,qhM w H l⟩
theorem qfb{α:Type}[Inhabited α](enc:α->Value)(w:World)(g:Nat)(d:Array α){cur:Array Value}{t:TypeId}{f:Nat×Nat}(hg:w.heap[g]? = some (.cells cur t f)):
  (putRow enc w g 0 d).heap[g]? = some (.cells (putCells enc 0 d cur) t f)/\∀k,k≠g->(putRow enc w g 0 d).heap[k]? = w.heap[k]?:=by
 unfold putRow mapBlock
 refine⟨?_,λk hk=>?_⟩
 ·simp only[Array.getElem?_modify,if_true,hg,Option.map_some]
  rfl
 ·simp only[Array.getElem?_modify]
  rw[if_neg (λe=>hk e.symm)]
theorem qjO{cur:Array Value}(l:List Int)(h:l.length<=cur.size):(putCells (Value.int .i64) 0 l.toArray cur).toList.take l.length=l.map (Value.int .i64):=by
 apply List.ext_getElem?
 intro k
 rw[List.getElem?_take]
 by_cases hk:k<l.length
 ·rw[if_pos hk]
  have h1:k<cur.size:=by omega
  simp[putCells,hk,h1,Nat.sub_zero]
 ·rw[if_neg hk]
  rw[List.getElem?_eq_none (by simpa using hk)]
theorem qkI(L:Lays.n112 P ρ)(eC:jD P (ρ.f 112))(tid:Nat):qJ P (ρ.f 112) ⟨[.mr tid (.int .i64)],[],λd=>some ((),(d.1.reverse,()))⟩:=by
 refine⟨eC,?_⟩
 intro d y hy w H vs ai hok hargs aq hfr
 cases hy
 obtain⟨v,vs',φ,ag,rfl,rfl,hv,bh,mC⟩:=hargs
 obtain⟨rfl,rfl⟩:=mC
 obtain⟨l,u⟩:=d
 simp only at bh ⊢
 obtain⟨ax,xs,aC,e1,e2,ho,hch⟩:=bh.dz
 obtain⟨hx,rfl⟩:=qh0 hch
 subst hx
 have e1:φ.ax=ax:=by simpa using e1
 have hn:=bh.1
 have jb:=bh.2.1
 have cn:qc [φ]=φ.fp:=by simp[qc]
 rw[cn]at hfr
 rcases ho.2 with⟨nW,hz⟩|⟨g,cap,cur,uK,_,hg,h1,h2,h3,h4⟩
 ·have hl:l=[]:=List.eq_nil_of_length_eq_zero hz
  subst hl
  have zq:v = .slice none 0 0:=by rw[hv,e1,nW]
  have hc:=Go.Proofs.Any.slices_Reverse_int_empty L none 0 w
  rw[zq]
  refine hc.mono ?_
  rintro e w' ⟨he,rfl⟩
  refine⟨[],H,[φ],[],he,jO.refl _ _,FH.le_refl _,hok,λ_ _ h=>.inl h,⟨rfl,rfl⟩,⟨_,[],φ,[],rfl,rfl,by rw[<-zq];exact hv,bh,rfl,rfl⟩,by simpa[cn]using jb,λb hb=>?_⟩
  have hb':b∈φ.fp:=by simpa[cn]using hb
  exact⟨(hfr b hb').1,.inl (by rw[cn];exact hb'),(hfr b hb').2⟩
 ·have zq:v = .slice (some ⟨g,0,none⟩) l.length cap:=by rw[hv,e1,uK]
  have bl:φ.fp=[g]:=by rw[e2,uK];simp[Value.ownBlock]
  have hsz:cur.size=cap:=by rw[h3];exact Nat.mul_one _
  have hlen:l.length<=cur.size:=by omega
  have wP:cur.toList.take l.length=l.map (Value.int .i64):=by
   have:=h4
   rwa[show l.length*(Ty.int IntKind.i64).size=l.length from Nat.mul_one _]at this
  have hH:Holds (Value.int .i64) w g 0 l.toArray:=by
   intro j hj
   have hj:j<l.length:=by simpa using hj
   refine⟨?_,?_⟩
   ·rw[qw hg,Nat.zero_add,<-Array.getElem?_toList]
    have:=congrArg (·[j]?) wP
    simp only[List.getElem?_take,hj,if_true,List.getElem?_map]at this
    rw[this]
    simp[hj]
   ·simp[World.frozen?,hg]
  have hc:=Go.Proofs.Any.slices_Reverse_int L g 0 cap l w hH (by unfold maxLen at h2;omega)
  rw[zq]
  refine hc.mono ?_
  rintro e w' ⟨he,n,rfl⟩
  have uQ:(Sort.ahead w n).heap[g]? = some (.cells cur tid (0,0)):=hg
  obtain⟨q1,q2⟩:=qfb (Value.int .i64) (Sort.ahead w n) g l.reverse.toArray uQ
  have hsize:(putRow (Value.int .i64) (Sort.ahead w n) g 0 l.reverse.toArray).heap.size=w.heap.size:=by simp[putRow,mapBlock,Sort.ahead]
  have cH:jO (· ∈qc [φ]) w (putRow (Value.int .i64) (Sort.ahead w n) g 0 l.reverse.toArray):=by
   refine⟨rfl,rfl,rfl,by omega,λk _ hk=>?_⟩
   exact q2 k (by rintro rfl;exact hk (by rw[cn,bl];simp))
  have wS:qR P (putRow (Value.int .i64) (Sort.ahead w n) g 0 l.reverse.toArray) H ⟨true,.list true tid (.int .i64),l.reverse⟩ φ:=by
   refine qR.eX hn jb ⟨φ.ax,l.reverse.map (Value.int .i64),[],rfl,by rw[e1];simpa using e2,⟨by simp[Ty.size],.inr ⟨g,cap,putCells (Value.int .i64) 0 l.reverse.toArray cur,by rw[e1,uK];simp,Nat.zero_le _,q1,by simpa using h1,h2,?_,?_⟩⟩,qhM _ _ _⟩
   ·simp[putCells,h3]
   ·have:=qjO (cur:=cur) l.reverse (by simpa using hlen)
    simpa[Ty.size]using this
  refine⟨[],H,[φ],[],he,cH,FH.le_refl _,hok.mod cH (λb hb=>(hfr b (by rw[cn]at hb;exact hb)).1),λ_ _ h=>.inl h,⟨rfl,rfl⟩,⟨_,[],φ,[],rfl,rfl,by rw[<-zq];exact hv,wS,rfl,rfl⟩,by simpa[cn]using jb,λb hb=>?_⟩
  have hb':b∈φ.fp:=by simpa[cn]using hb
  exact⟨(hfr b hb').1,.inl (by rw[cn];exact hb'),by rw[hsize];exact(hfr b hb').2⟩
end
end Go.Vi
namespace Go.Vi
open Go.ChangeShapes Go.WideShapes Go.ChangeAt Go.RowKit Go.WideElems Go.Proofs.YtmlocmhkfnojbaaGreat
def Ty.plain:Ty->Bool
 |.int _=>true
 |.bool=>true
 |.list own _ e=>!own&&e.plain
 |.pair a b=>a.plain&&b.plain
 |.str t=>t.plain
 |_=>false
def OX:(τ:Ty)->τ.den->Prop
 |.int k,x=>k.min<=x/\x<=k.max
 |.list _ _ e,l=>∀y∈l,OX e y
 |.pair a b,x=>OX a x.1/\OX b x.2
 |.str t,x=>OX t x
 |_,_=>True
def gT:(τ:Ty)->τ.den->Nat
 |.list _ _ e,l=>(l.map (gT e)).sum+1
 |.pair a b,x=>gT a x.1+gT b x.2
 |.str t,x=>gT t x+1
 |_,_=>1
def FU:(ps:List j3)->aI ps->Prop
 |[],_=>True
 |.v τ::ps,d=>OX τ d.1/\FU ps d.2
 |.r _::ps,d=>FU ps d.2
 |.c _::ps,d=>FU ps d.2
 |.m _::ps,d=>FU ps d.2
 |.mr _ _::ps,d=>FU ps d.2
 |.t _ _::ps,d=>FU ps d.2
 |.gm _::ps,d=>FU ps d.2
 |.cm _ _::ps,d=>FU ps d.2
def A':(ps:List j3)->aI ps->Nat
 |[],_=>0
 |.v τ::ps,d=>gT τ d.1+A' ps d.2
 |.r _::ps,d=>A' ps d.2
 |.c _::ps,d=>A' ps d.2
 |.m _::ps,d=>A' ps d.2
 |.mr _ _::ps,d=>A' ps d.2
 |.t _ _::ps,d=>A' ps d.2
 |.gm _::ps,d=>A' ps d.2
 |.cm _ _::ps,d=>A' ps d.2
def oA(P:Program):List j3->List TypeId->Bool
 |[],[]=>true
 |.v τ::ps,t::ts=>τ.plain&&τ.ay&&(cQ P τ).1 t&&P.readableRec t&&Nat.blt t P.types.size&&oA P ps ts
 |_,_=>false
def uj(w:World):FH:=λb=>match w.heap[b]? with
 |some (.cells c _ _)=>some (.cells c)
 |_=>none
theorem Ju(w:World):cI (uj w) w:=by
 intro b c h
 unfold uj at h
 split at h
 ·rename_i c' t f e;cases h;exact⟨t,f,e⟩
 ·cases h
section
variable {H:Type} {enc:TypeId×Value->H} {P:Program} {W:World}
theorem qks{a:Addr}{n:Nat}{cs:List Value}(h:W.cells? 0 a n=some cs)(hn:0<n):∃b o blk,a=⟨b,o,none⟩/\uj W b=some (.cells blk)/\cs=ct blk o n/\cs.length=n:=by
 unfold World.cells? at h
 rw[if_pos (Nat.zero_le _)]at h
 have hl:cs.length=n:=by simpa using mapM_some_length h
 have hg:=mapM_some_get h
 have h0:=hg 0 0 (by simp[hn])
 obtain⟨b,o,sp⟩:=a
 have hc:∃c t f,W.heap[b]? = some (.cells c t f)/\sp=none:=by
  simp only[Addr.add,if_true]at h0
  unfold World.cell? at h0
  simp only at h0
  have:cs[0]?≠none:=by rw[List.getElem?_eq_getElem (by omega)];simp
  cases hb:W.heap[b]? with
  |none=>rw[hb]at h0;exact absurd h0.symm this
  |some ob=>
   rw[hb]at h0
   cases ob with
   |cells c t f=>
    cases sp with
    |none=>exact⟨c,t,f,rfl,rfl⟩
    |some u=>simp only[Option.isSome_some,if_true]at h0;exact absurd h0.symm this
   |_=>exact absurd h0.symm this
 obtain⟨c,t,f,hb,rfl⟩:=hc
 refine⟨b,o,c,rfl,by unfold uj;rw[hb],?_,hl⟩
 have hi:∀i,i<n->c[o+i]? = cs[i]?:=by
  intro i hi
  have:=hg i i (by simp[hi])
  have e:(⟨b,o,none⟩:Addr).add i=⟨b,o+i,none⟩:=by
   unfold Addr.add
   split
   ·rename_i e;subst e;rfl
   ·rfl
  rw[e]at this
  rw[<-this]
  simp[World.cell?,hb]
 unfold ct
 apply List.ext_getElem?
 intro i
 rw[List.getElem?_take]
 split
 ·rename_i hlt
  rw[List.getElem?_drop,<-hi i hlt,Array.getElem?_toList]
 ·rename_i hlt
  rw[List.getElem?_eq_none (by omega)]
theorem AC(blk:Array Value)(o z n:Nat):ct blk o ((n+1)*z)=ct blk o z++ct blk (o+z) (n*z):=by
 unfold ct
 rw[show(n+1)*z=z+n*z by rw[Nat.succ_mul,Nat.add_comm],List.take_add,List.drop_drop]
theorem qkr{α:Type}{R:α->List Value->List Nat->Prop}{Q:α->Prop}{g:α->Nat}{blk:Array Value}{z:Nat}:∀{l:List (DataW H)} {o:Nat},(∀(i:Nat) d,l[i]? = some d->∃x,R x (ct blk (o+i*z) z) []/\Q x/\g x<=Rows.uptoBulk d)->
  ∃xs:List α,xs.length=l.length/\qd R xs (ct blk o (xs.length*z)) []/\(∀x∈xs,Q x)/\(xs.map g).sum<=Rows.uptoBulkAll l
 |[],o,_=>⟨[],rfl,⟨by simp[ct],rfl⟩,by simp,by simp⟩
 |d::l,o,h=>by
  obtain⟨x,h1,h2,h3⟩:=h 0 d rfl
  obtain⟨xs,k1,k2,k3,k4⟩:=qkr (R:=R) (Q:=Q) (g:=g) (l:=l) (o:=o+z) (blk:=blk) (z:=z) (λi d hd=>by
   have:=h (i+1) d hd
   rw[show o+(i+1)*z=o+z+i*z by rw[Nat.succ_mul];omega]at this
   exact this)
  refine⟨x::xs,by simp[k1],?_,?_,?_⟩
  ·rw[List.length_cons,AC]
   exact⟨_,_,[],[],rfl,rfl,by simpa using h1,k2⟩
  ·intro y hy
   rcases List.mem_cons.1 hy with rfl|hy
   ·exact h2
   ·exact k3 y hy
  ·simp only[List.map_cons,List.sum_cons,Rows.uptoBulkAll]
   omega
theorem qhF{base:Nat}{spare:Nat->Bool}{held:Bool}:∀{ts:List TypeId} {vs:List Value} {ds:List (DataW H)} {ps:List MemPlace},DataW.TrodAll enc P W base spare held ts vs ds ps->ds.length=ts.length
 |[],_,_,_,h=>by obtain⟨rfl,rfl,_⟩:=trodAll_nil h;rfl
 |_::_,_,_,_,h=>by
  obtain⟨_,_,_,_,_,_,rfl,rfl,_,_,hr⟩:=trodAll_cons h
  rw[List.length_cons,List.length_cons,qhF hr]
theorem Zw{t:TypeId}{τ:Ty}(h:qT P t τ):P.cellsOf t=τ.size:=by
 obtain⟨i,hi,hs,_⟩:=h.info
 unfold Program.cellsOf
 rw[hi]
 exact hs
def Km(P:Program)(W:World)(τ:Ty)(cs:List Value)(n:Nat):Prop:=∃x:τ.den,qm P τ W (uj W) x cs []/\OX τ x/\gT τ x<=n
theorem ZR{τ:Ty}(hA:∀ ⦃t:TypeId⦄ ⦃n:Nat⦄ ⦃cs:List Value⦄ ⦃y:DataW H×List MemPlace⦄,qT P t τ->DataW.trod enc P W 0 (λ_=>true) true n t cs=some y->Km P W τ cs (Rows.uptoBulk y.1))
  {l:List Field} {o n:Nat} {cs:List Value} {xs:List (DataW H×List MemPlace)} (hf:∃x,l=[x]/\x.offset=o/\qT P x.type τ) (hl:xs.length=l.length)
  (h:∀(i:Nat) (f:Field),l[i]? = some f->DataW.trod enc P W 0 (λ_=>true) true n f.type ((cs.drop f.offset).take (P.cellsOf f.type))=xs[i]?):
  Km P W τ ((cs.drop o).take τ.size) (Rows.uptoBulkAll (xs.map (·.1))):=by
 obtain⟨x,rfl,rfl,ht⟩:=hf
 match xs,hl with
 |[y],_=>
  have:=h 0 x rfl
  rw[Zw ht]at this
  obtain⟨v,h1,h2,h3⟩:=hA ht this
  exact⟨v,h1,h2,by simpa[Rows.uptoBulkAll]using h3⟩
theorem Zx{τ:Ty}(hp:∀a b,τ≠.pair a b){l:List Field}{o:Nat}(h:nR P τ l o):∃x,l=[x]/\x.offset=o/\qT P x.type τ:=by
 unfold nR at h
 match l with
 |[x]=>
  refine⟨x,rfl,?_⟩
  cases τ<;>simp only[cQ,Bool.and_eq_true]at h
  case pair a b=>exact absurd rfl (hp a b)
  all_goals exact⟨Nat.eq_of_beq_eq_true h.1,by unfold qT;simp only[cQ,Bool.and_eq_true];exact h.2⟩
 |[]=>cases τ<;>simp[cQ]at h
 |x::y::r=>
  cases τ<;>simp[cQ]at h
  case pair a b=>exact absurd rfl (hp a b)
theorem TW:∀(τ:Ty),τ.plain=true->
  (∀ ⦃t:TypeId⦄ ⦃n:Nat⦄ ⦃cs:List Value⦄ ⦃y:DataW H×List MemPlace⦄,qT P t τ->DataW.trod enc P W 0 (λ_=>true) true n t cs=some y->Km P W τ cs (Rows.uptoBulk y.1))/\
  (∀ ⦃l:List Field⦄ ⦃o n:Nat⦄ ⦃cs:List Value⦄ ⦃xs:List (DataW H×List MemPlace)⦄,nR P τ l o->xs.length=l.length->
   (∀(i:Nat) (f:Field),l[i]? = some f->DataW.trod enc P W 0 (λ_=>true) true n f.type ((cs.drop f.offset).take (P.cellsOf f.type))=xs[i]?)->
   Km P W τ ((cs.drop o).take τ.size) (Rows.uptoBulkAll (xs.map (·.1))))
 |.int k,_=>by
  have hA:∀ ⦃t:TypeId⦄ ⦃n:Nat⦄ ⦃cs:List Value⦄ ⦃y:DataW H×List MemPlace⦄,qT P t (.int k)->DataW.trod enc P W 0 (λ_=>true) true n t cs=some y->Km P W (.int k) cs (Rows.uptoBulk y.1):=by
   intro t n cs y ht h
   obtain⟨x,rfl,rfl,hw⟩:=DataW.trod_int ht.int h
   simp only[Lit.wf,Bool.and_eq_true,decide_eq_true_eq]at hw
   exact⟨x,⟨rfl,rfl⟩,hw,by simp[gT,Rows.uptoBulk]⟩
  exact⟨hA,λ_ _ _ _ _ hf=>ZR hA (Zx (λ_ _ h=>by cases h) hf)⟩
 |.bool,_=>by
  have hA:∀ ⦃t:TypeId⦄ ⦃n:Nat⦄ ⦃cs:List Value⦄ ⦃y:DataW H×List MemPlace⦄,qT P t .bool->DataW.trod enc P W 0 (λ_=>true) true n t cs=some y->Km P W .bool cs (Rows.uptoBulk y.1):=by
   intro t n cs y ht h
   obtain⟨x,rfl,rfl⟩:=DataW.trod_bool ht.bool h
   exact⟨x,⟨rfl,rfl⟩,trivial,by simp[gT,Rows.uptoBulk]⟩
  exact⟨hA,λ_ _ _ _ _ hf=>ZR hA (Zx (λ_ _ h=>by cases h) hf)⟩
 |.list false tid e,hp=>by
  have ih:=(TW e (by simpa[Ty.plain]using hp)).1
  have hA:∀ ⦃t:TypeId⦄ ⦃n:Nat⦄ ⦃cs:List Value⦄ ⦃y:DataW H×List MemPlace⦄,qT P t (.list false tid e)->DataW.trod enc P W 0 (λ_=>true) true n t cs=some y->Km P W (.list false tid e) cs (Rows.uptoBulk y.1):=by
   intro t n cs y ht h
   obtain⟨hu,he⟩:=ht.list
   have hz:=Zw he
   obtain⟨_,_,_,hpos,_⟩:=he.info
   rcases DataW.trod_slice hu h with⟨rfl,rfl⟩|⟨a,len,cap,elems,rest,m,rfl,rfl,rfl,_,hlc,_,hel,cW,_,_⟩
   ·exact⟨([]:List e.den),⟨rfl,none,0,rfl,Nat.le_refl _,.inl rfl⟩,(λy hy=>by cases hy),by simp[gT,Rows.uptoBulk]⟩
   ·cases len with
    |zero=>
     refine⟨([]:List e.den),⟨rfl,some a,cap,rfl,Nat.zero_le _,.inl rfl⟩,(λy hy=>by cases hy),?_⟩
     simp[gT,Rows.uptoBulk]
    |succ len=>
     have hne:∀i,i<len+1->∃y,elems[i]? = some y:=λi hi=>⟨_,List.getElem?_eq_getElem (by omega)⟩
     have hc0:∃cs0,W.cells? 0 a e.size=some cs0:=by
      obtain⟨y,hy⟩:=hne 0 (by omega)
      have:=cW 0 (by omega)
      rw[hy,hz]at this
      obtain⟨cs0,h1,_⟩:=Option.bind_eq_some_iff.1 this
      exact⟨cs0,by simpa[Addr.add]using h1⟩
     obtain⟨cs0,hc0⟩:=hc0
     obtain⟨b,o,blk,rfl,hb,_,_⟩:=qks hc0 hpos
     obtain⟨xs,k1,k2,k3,k4⟩:=qkr (R:=qm P e W (uj W)) (Q:=OX e) (g:=gT e) (l:=elems.map (·.1)) (o:=o) (blk:=blk) (z:=e.size) (λi d hd=>by
      rw[List.getElem?_map]at hd
      obtain⟨y,hy,rfl⟩:=Option.map_eq_some_iff.1 hd
      have hi:i<len+1:=by
       have:=(List.getElem?_eq_some_iff.1 hy).1
       omega
      have:=cW i hi
      rw[hy,hz]at this
      obtain⟨cs1,h1,h2⟩:=Option.bind_eq_some_iff.1 this
      obtain⟨b',o',aX,e1,hb',rfl,_⟩:=qks h1 hpos
      have e2:b'=b/\o'=o+i*e.size:=by
       unfold Addr.add at e1
       split at e1
       ·rename_i e0
        cases e1
        exact⟨rfl,by rw[e0];rfl⟩
       ·cases e1;exact⟨rfl,rfl⟩
      obtain⟨rfl,rfl⟩:=e2
      rw[hb]at hb'
      cases hb'
      exact ih he h2)
     refine⟨xs,⟨rfl,some ⟨b,o,none⟩,cap,?_,?_,.inr ⟨b,o,blk,rfl,hb,k2⟩⟩,k3,?_⟩
     ·rw[k1,List.length_map,hel]
     ·rw[k1,List.length_map,hel];exact hlc
     ·simp only[gT,Rows.uptoBulk]
      omega
  exact⟨hA,λ_ _ _ _ _ hf=>ZR hA (Zx (λ_ _ h=>by cases h) hf)⟩
 |.pair a b,hp=>by
  simp only[Ty.plain,Bool.and_eq_true]at hp
  have iha:=(TW a hp.1).1
  have Nv:=(TW b hp.2).2
  refine⟨λ_ _ _ _ ht=>ht.bT.elim,?_⟩
  intro l o n cs xs hf hl h
  unfold nR at hf
  match l with
  |[]=>simp[cQ]at hf
  |[x]=>simp[cQ]at hf
  |x::y::r=>
   simp only[cQ,Bool.and_eq_true]at hf
   obtain⟨⟨e1,hx⟩,hr⟩:=hf
   obtain rfl:=Nat.eq_of_beq_eq_true e1
   match xs,hl with
   |z::zs,hl=>
    have h0:=h 0 x rfl
    have hx:qT P x.type a:=hx
    rw[Zw hx]at h0
    obtain⟨u,h1,h2,h3⟩:=iha hx h0
    obtain⟨v,k1,k2,k3⟩:=Nv (l:=y::r) (o:=x.offset+a.size) (n:=n) (cs:=cs) (xs:=zs) hr (by simpa using hl) (λi f hi=>h (i+1) f hi)
    refine⟨(u,v),⟨_,_,[],[],?_,rfl,h1,k1⟩,⟨h2,k2⟩,?_⟩
    ·rw[show(Ty.pair a b).size=a.size+b.size from rfl,List.take_add,List.drop_drop]
    ·simp only[gT,List.map_cons,Rows.uptoBulkAll]
     omega
 |.str s,hp=>by
  have ih:=(TW s (by simpa[Ty.plain]using hp)).2
  have hA:∀ ⦃t:TypeId⦄ ⦃n:Nat⦄ ⦃cs:List Value⦄ ⦃y:DataW H×List MemPlace⦄,qT P t (.str s)->DataW.trod enc P W 0 (λ_=>true) true n t cs=some y->Km P W (.str s) cs (Rows.uptoBulk y.1):=by
   intro t n cs y ht h
   obtain⟨fs,hu,hf⟩:=ht.str
   obtain⟨xs,m,rfl,rfl,hl,hx,cW⟩:=DataW.trod_struct hu h
   obtain⟨v,h1,h2,h3⟩:=ih (l:=fs.toList) (o:=0) (n:=m) (cs:=cs) (xs:=xs) hf (by simpa using hx) (λi f hi=>cW i f (by simpa using hi))
   have hsz:cs.length=s.size:=by rw[hl,Zw ht];rfl
   refine⟨v,?_,h2,?_⟩
   ·have e:(cs.drop 0).take s.size=cs:=by rw[List.drop_zero,<-hsz,List.take_length]
    rw[e]at h1
    exact h1
   ·simp only[gT,Rows.uptoBulk]
    omega
  exact⟨hA,λ_ _ _ _ _ hf=>ZR hA (Zx (λ_ _ h=>by cases h) hf)⟩
 |.list true _ _,h=>by simp[Ty.plain]at h
 |.ptr _,h=>by cases h
 |.op _,h=>by cases h
 |.arr _ _,h=>by cases h
 |.fn _ _,h=>by cases h
 |.bQ _ _ _,h=>by cases h
 |.ext _ _ _ _,h=>by cases h
theorem LV{t:TypeId}{τ:Ty}(hp:τ.plain=true)(ht:qT P t τ){r:Reach}{b0:Nat}{v:Value}(h:Value.okWide P W r b0 t v):v=j7 τ v.cells.toList:=by
 cases τ with
 |int k=>obtain⟨n,rfl⟩:=okWide_int ht.int h;rfl
 |bool=>obtain⟨n,rfl⟩:=okWide_bool ht.bool h;rfl
 |list own tid e=>obtain⟨a,l,c,rfl⟩:=okWide_slice ht.list.1 h;rfl
 |pair a b=>exact ht.bT.elim
 |str s=>
  obtain⟨fs,hu,_⟩:=ht.str
  unfold Value.okWide at h
  rw[hu]at h
  obtain⟨cs,rfl,_⟩:=h
  simp[j7,Ty.isAgg,Value.cells]
 |_=>cases hp
theorem qkx:∀{ps:List j3} {ts:List TypeId} {vs:List Value} {ds:List (DataW H)} {pl:List MemPlace},oA P ps ts=true->
  (∀(j:Nat) t v,ts[j]? = some t->vs[j]? = some v->∃r b0,Value.okWide P W r b0 t v)->DataW.TrodAll enc P W 0 (λ_=>true) true ts vs ds pl->
  ∃(d:aI ps) (ai:List qH),jU P W (uj W) ps d vs ai/\qc ai=[]/\FU ps d/\A' ps d<=Rows.uptoBulkAll ds
 |[],[],vs,ds,pl,_,_,h=>by
  obtain⟨rfl,rfl,_⟩:=trodAll_nil h
  exact⟨(),[],⟨rfl,rfl⟩,rfl,trivial,Nat.le_refl _⟩
 |.v τ::ps,t::ts,vs,ds,pl,hp,hval,h=>by
  simp only[oA,Bool.and_eq_true]at hp
  obtain⟨⟨⟨⟨⟨h1,h2⟩,h3⟩,_⟩,_⟩,h6⟩:=hp
  obtain⟨v,vs',d,ds',p,q,rfl,rfl,_,hd,hr⟩:=trodAll_cons h
  obtain⟨d',ai,k1,k2,k3,k4⟩:=qkx (ps:=ps) h6 (λj t v hj hv=>hval (j+1) t v hj hv) hr
  obtain⟨n,hn⟩:=hd
  obtain⟨x,e1,e2,e3⟩:=(TW (enc:=enc) (P:=P) (W:=W) τ h1).1 (t:=t) h3 hn
  obtain⟨r,b0,ho⟩:=hval 0 t v rfl rfl
  refine⟨(x,d'),qA::ai,⟨v,vs',qA,ai,rfl,rfl,h2,rfl,⟨v.cells.toList,LV h1 h3 ho,e1⟩,k1⟩,by simpa[qc,qA]using k2,⟨e2,k3⟩,?_⟩
  show gT τ x+A' ps d'<=Rows.uptoBulk d+Rows.uptoBulkAll ds'
  have e3':gT τ x<=Rows.uptoBulk d:=e3
  omega
 |[],_::_,_,_,_,hp,_,_=>by cases hp
 |.v _::_,[],_,_,_,hp,_,_=>by cases hp
 |.r _::_,_,_,_,_,hp,_,_=>by simp[oA]at hp
 |.c _::_,_,_,_,_,hp,_,_=>by simp[oA]at hp
 |.m _::_,_,_,_,_,hp,_,_=>by simp[oA]at hp
 |.mr _ _::_,_,_,_,_,hp,_,_=>by simp[oA]at hp
 |.t _ _::_,_,_,_,_,hp,_,_=>by simp[oA]at hp
 |.gm _::_,_,_,_,_,hp,_,_=>by simp[oA]at hp
 |.cm _ _::_,_,_,_,_,hp,_,_=>by simp[oA]at hp
theorem qkw{W':World}{sp:Nat->Bool}(hl:laidOutB P=true):∀{ps:List j3} {ts:List TypeId} {vs:List Value} {ds:List (DataW H)} {pl:List MemPlace},oA P ps ts=true->
  DataW.TrodAll enc P W 0 (λ_=>true) true ts vs ds pl->(∀p∈pl,W.sameAt W' p)->(∀p∈pl,sp p.block=true)->DataW.TrodAll enc P W' 0 sp true ts vs ds pl
 |[],[],vs,ds,pl,_,h,_,_=>by
  obtain⟨rfl,rfl,rfl⟩:=trodAll_nil h
  exact rfl
 |.v τ::ps,t::ts,vs,ds,pl,hp,h,hs,hb=>by
  simp only[oA,Bool.and_eq_true]at hp
  obtain⟨⟨⟨⟨⟨_,_⟩,_⟩,h4⟩,h5⟩,h6⟩:=hp
  obtain⟨v,vs',d,ds',p,q,rfl,rfl,rfl,hd,hr⟩:=trodAll_cons h
  exact⟨p,q,Trod_stays hl h4 (Eq.mp Nat.blt_eq h5) hd (λx hx=>hs x (List.mem_append_left _ hx)) (λx hx=>hb x (List.mem_append_left _ hx)),
   qkw hl h6 hr (λx hx=>hs x (List.mem_append_right _ hx)) (λx hx=>hb x (List.mem_append_right _ hx)),rfl⟩
 |[],_::_,_,_,_,hp,_,_,_=>by cases hp
 |.v _::_,[],_,_,_,hp,_,_,_=>by cases hp
 |.r _::_,_,_,_,_,hp,_,_,_=>by simp[oA]at hp
 |.c _::_,_,_,_,_,hp,_,_,_=>by simp[oA]at hp
 |.m _::_,_,_,_,_,hp,_,_,_=>by simp[oA]at hp
 |.mr _ _::_,_,_,_,_,hp,_,_,_=>by simp[oA]at hp
 |.t _ _::_,_,_,_,_,hp,_,_,_=>by simp[oA]at hp
 |.gm _::_,_,_,_,_,hp,_,_,_=>by simp[oA]at hp
 |.cm _ _::_,_,_,_,_,hp,_,_,_=>by simp[oA]at hp
theorem qjP{f:Func}{s:ChangeSpec}{apart AS handsOn again:Bool}{W W':World}{args:Array Value}{v:Value}{ds gs:List (DataW H)}{before pa pv:List MemPlace}
  (hW:DataW.Whole enc P f.params.toList s.vars apart W args.toList ds gs before)
  (hres:∀(b:Nat) (sp:Nat->Bool) (hd:Bool),DataW.TrodAll enc P W' b sp hd f.resultTypes.toList (v.resultList f.resultTypes.size) (s.fn H (ds++gs)).results [])
  (hargs:∀sp:Nat->Bool,(∀p∈before,sp p.block=true)->DataW.TrodAll enc P W' 0 sp true f.params.toList args.toList (s.fn H (ds++gs)).args pa)
  (hvars:∀sp:Nat->Bool,(∀p∈before,sp p.block=true)->DataW.TrodVars enc P W' sp s.vars (s.fn H (ds++gs)).vars pv)
  (hps:before=pa++pv) (hb:Below W.heap.size W W')
  (hok:∀(j:Nat) (t:TypeId) (r:Value),f.resultTypes[j]? = some t->(v.resultList f.resultTypes.size)[j]? = some r->Value.okWide P W' .any 0 t r):
  s.post enc P f apart AS handsOn again W args v W':=by
 have hlt:∀p∈before,p.block<W.heap.size:=λp hp=>hW.lt p hp
 have hold:∀p∈before,(λb=>decide (b<W.heap.size)) p.block=true:=λp hp=>by simpa using hlt p hp
 refine⟨ds,gs,before,[],pa,pv,hW,hres _ _ _,hargs _ hold,hvars _ hold,World.keptBut_mono (λp hp=>⟨hp,?_⟩) (hb.frame (· ∈before)),λ_=>?_⟩
 ·rw[hps,List.mem_append]at hp
  exact Or.inr hp
 ·obtain⟨_,_,_,_,_,hz,hn⟩:=hW
  refine⟨hok,_,_,([]++pa)++pv,⟨[]++pa,pv,trodAll_append (hargs _ (λ_ _=>rfl)) (hres _ _ _),hvars _ (λ_ _=>rfl),rfl,?_,?_⟩,?_⟩
  ·intro b off hp
   have hin:MemPlace.cell b off∈before:=by rw[hps];simpa using hp
   rw[hb.frozen (hlt _ hin)]
   exact hz b off hin
  ·intro ha
   have:=hn ha
   rw[hps]at this
   simpa using this
  ·intro p hp _
   rw[hps]
   simpa using hp
theorem BS{f:FuncId}{fn:Func}{ps:List j3}{g:aI ps->Option (bH [.v .bool]×aV ps)}(hp:qJ P f ⟨ps,[.v .bool],g⟩)(hl:laidOutB P=true)(hps:oA P ps fn.params.toList=true)
  {rt:TypeId} (Sd:fn.resultTypes = #[rt]) (hb:P.underlying rt=some .bool) {s:ChangeSpec} (hv:s.vars=[]) (hfn:∀ds:List (DataW H),ds.length=fn.params.size->s.fn H ds={results:=[.lit (.bool true)],args:=ds})
  (aba:∀d,FU ps d->A' ps d<=1048576->∃md,g d=some ((true,()),md))
  {r:Reach} {base:Nat} {args:Array Value} {ds gs:List (DataW H)} {before:List MemPlace} {apart AS handsOn again:Bool}
  (hval:∀(j:Nat) t v,fn.params[j]? = some t->args[j]? = some v->Value.okWide P W r base t v)
  (hW:DataW.Whole enc P fn.params.toList s.vars apart W args.toList ds gs before) (hk:Rows.uptoSmall H (ds++gs)=true):
  Calls P f args W λe W'=>∃v,e = .returned v/\s.post enc P fn apart AS handsOn again W args v W':=by
 have hW':=hW
 obtain⟨p,q,hA,hV,rfl,hfz,aq⟩:=hW
 rw[hv]at hV
 obtain⟨rfl,rfl⟩:=trodVars_none hV
 rw[List.append_nil]at hk
 obtain⟨d,ai,k1,k2,k3,k4⟩:=qkx hps (λj t v hj hv=>⟨r,base,hval j t v (by simpa using hj) (by simpa using hv)⟩) hA
 have oK:Rows.uptoBulkAll ds<=1048576:=of_decide_eq_true hk
 obtain⟨md,hg⟩:=aba d k3 (Nat.le_trans k4 oK)
 have hc:=hp.2 d _ hg W (uj W) args.toList ai (Ju W) k1 (by rw[k2];exact List.nodup_nil) (by rw[k2];simp)
 rw[Array.toArray_toList]at hc
 refine hc.mono ?_
 rintro e W' ⟨us,H',ag,aJ,rfl,cH,_,_,_,hres,_⟩
 obtain⟨v,vs',φ,iL,rfl,_,_,_,⟨cs,rfl,an⟩,kO⟩:=hres
 obtain⟨rfl,_⟩:=kO
 obtain⟨rfl,_⟩:=an
 have mG:ds.length=fn.params.size:=by rw[qhF hA];simp
 have CJ:Below W.heap.size W W':=⟨cH.os,cH.tape,cH.output,cH.size,λk hk=>cH.block k hk (by rw[k2];simp)⟩
 have hlt:∀x∈p,x.block<W.heap.size:=λx hx=>hW'.lt x (List.mem_append_left _ hx)
 have hsame:∀x∈p,W.sameAt W' x:=by
  intro x hx
  have hb:=CJ.block x.block (hlt x hx)
  cases x with
  |cell b off=>exact World.cell?_of_block (w:=W) hb
  |map b=>exact hb
 refine⟨.bool true,rfl,qjP (pa:=p) (pv:=[]) hW' ?_ ?_ ?_ rfl CJ ?_⟩
 ·intro b sp hd
  rw[List.append_nil,hfn ds mG,Sd]
  exact trodAll_mk1 (shut_bool hb true)
 ·intro sp hsp
  rw[List.append_nil,hfn ds mG]
  exact qkw hl hps hA hsame (λx hx=>hsp x (List.mem_append_left _ hx))
 ·intro sp _
  rw[hv,List.append_nil,hfn ds mG]
  exact rfl
 ·exact ok_one Sd rfl (okWide_bool_mk hb true)
end
end Go.Vi
namespace Go.Vi
theorem qp{α R:Type}(x:α)(k:α->Option R):qa (some x) k=k x:=rfl
theorem RB{α β R:Type}(x:α)(k:α->Option R)(l:β->Option R):fD (.inl x) k l=k x:=rfl
theorem Hv{α β R:Type}(x:β)(k:α->Option R)(l:β->Option R):fD (.inr x) k l=l x:=rfl
theorem vi{R:Type}{a b:Int}(h:a<=b)(k:Option R):bO a b k=k:=by unfold bO;rw[if_pos h]
theorem Ho{R:Type}{n:Int}(h0:0<=n)(h:n<=274877906944)(k:Option R):qo n k=k:=by rw[jQ,if_pos ⟨h0,h⟩]
theorem Ri{R:Type}{n:Int}(h1: -9223372036854775808<=n)(h2:n<=9223372036854775807)(k:Option R):dR n k=k:=by rw[YJ,if_pos ⟨h1,h2⟩]
theorem uG{R:Type}{i:Int}{n:Nat}(h0:0<=i)(h:i<n)(k:Option R):bx i n k=k:=by unfold bx;rw[if_pos ⟨h0,h⟩]
theorem Hr{α R:Type}(x:α)(k:α->Option R):sF x k=k x:=rfl
theorem Gn{α R:Type}(x:α)(k:α->Option R):vg x k=k x:=rfl
theorem jF{p:Prop}[Decidable p](h:p):decide p=true:=decide_eq_true h
theorem fm{p:Prop}[Decidable p](h:¬p):decide p=false:=decide_eq_false h
theorem IZ{α R:Type}{l:List α}{i:Int}{x:α}(h0:0<=i)(h:l[i.toNat]? = some x)(k:α->Option R):qn l i k=k x:=by
 unfold qn
 rw[if_pos h0,h]
theorem oC{α R:Type}{l:List α}{i:Nat}{x:α}(h:l[i]? = some x)(k:α->Option R):qn l (i:Int) k=k x:=IZ (by omega) (by rwa[show((i:Int)).toNat=i by omega]) k
def gd{α:Type}[Inhabited α](l:List α)(i:Int):α:=l.getD i.toNat default
theorem qmi{α:Type}[Inhabited α]{l:List α}{i:Int}{c:α}(h0:0<=i)(h:i<l.length):gd (l.set i.toNat c) i=c:=by
 unfold gd
 rw[List.getD_eq_getElem?_getD,List.getElem?_set_self (by omega)]
 rfl
theorem qoy{α:Type}[Inhabited α]{l:List α}{i j:Int}{c:α}(h0:0<=i)(hj:0<=j)(h:j≠i):gd (l.set i.toNat c) j=gd l j:=by
 unfold gd
 rw[List.getD_eq_getElem?_getD,List.getElem?_set_ne (by omega),List.getD_eq_getElem?_getD]
end Go.Vi
