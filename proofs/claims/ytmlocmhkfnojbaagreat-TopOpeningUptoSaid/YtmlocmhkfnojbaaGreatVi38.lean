/- The abstract interpreter 'Vi', thirty-eighth part: all code, ranges over functions with it; the contract of a function. No condition beyond those typed in each theorem. -/
import Derived.Test.YtmlocmhkfnojbaaGreatVi37
namespace Go.Vi
open Go.RowKit
section
variable {P:Program} {C:cM} {aa:jB} {R:Type} {r:R} {s s' s1:St} {a a' a1:Act} {w w' W W' W1:World} {H H' Hf:FH} {Φ aU:Nat->qH}
theorem qjl(hs:qh P C s a w H Φ):∀{tl:List Nat} {l:List AV},YA s tl=some l->dl (qi P C w H Φ s.obj) l (tl.map λt=>a.tmps.getD t undef)
 |[],l,h=>by cases h;trivial
 |t::tl,l,h=>by
  simp only[YA]at h
  split at h
  ·rename_i av r h1 h2
   cases h
   exact⟨hs.ts t av h1,qjl hs h2⟩
  ·cases h
theorem qlU{x:X}{k:X->Option R}:∀{l:List X},wB l x k=some r->k x=some r
 |[],h=>by cases h
 |y::l,h=>by
  unfold wB at h
  cases hb:y.same x with
  |true=>rw[hb,cond_true,X.pP hb]at h;exact h
  |false=>rw[hb]at h;exact qlU h
theorem UE{os:Nat->Option Obj}:∀{ps:List j3} {l:List AV} {ai:List qH} {s:St},ps.all reads=true->pT os Φ ps l ai->qh P C s a w H Φ->qh P C (HB s ps l) a w H Φ/\∀j,(HB s ps l).obj j=if j∈qI ps l then none else s.obj j
 |[],l,ai,s,_,_,hs=>⟨by cases l<;>exact hs,λj=>by cases l<;>simp[HB,qI]⟩
 |.v _::ps,l,ai,s,hr,hm,hs=>by
  obtain⟨av,l',φ,ag,rfl,rfl,_,hm⟩:=hm
  exact UE (ps:=ps) (by simpa[reads]using hr) hm hs
 |.r _::ps,l,ai,s,hr,hm,hs=>by
  obtain⟨av,l',φ,ag,rfl,rfl,_,hm⟩:=hm
  exact UE (ps:=ps) (by simpa[reads]using hr) hm hs
 |.c _::ps,l,ai,s,hr,hm,hs=>by
  obtain⟨av,l',φ,ag,rfl,rfl,_,hm⟩:=hm
  exact UE (ps:=ps) (by simpa[reads]using hr) hm hs
 |.gm τ::ps,l,ai,s,hr,hm,hs=>by
  obtain⟨id,l',ag,x,rfl,rfl,_,hm⟩:=hm
  obtain⟨h1,h2⟩:=UE (ps:=ps) (by simpa[reads]using hr) hm (hs.remove id)
  refine⟨h1,λj=>?_⟩
  show(HB ((s.kill id).setObj id none) ps l').obj j=_
  rw[h2,St.ak,St.kill,St.cU]
  simp only[qI,AV.name,List.singleton_append,List.mem_cons]
  by_cases e1:j∈qI ps l'
  ·rw[if_pos e1,if_pos (.inr e1)]
  ·rw[if_neg e1]
   by_cases e2:id=j
   ·rw[if_pos e2,if_pos (.inl e2.symm)]
   ·rw[if_neg e2,if_neg (λh=>h.elim (λh=>e2 h.symm) e1)]
 |.m _::_,_,_,_,hr,_,_=>by simp[reads]at hr
 |.mr _ _::_,_,_,_,hr,_,_=>by simp[reads]at hr
 |.t _ _::_,_,_,_,hr,_,_=>by simp[reads]at hr
 |.cm _ _::_,_,_,_,hr,_,_=>by simp[reads]at hr
theorem qhJ{α β:Type}{R:α->β->Prop}:∀{l:List α} {l':List α} {m m':List β},dl R l m->dl R l' m'->dl R (l++l') (m++m')
 |[],_,[],_,_,h=>h
 |[],_,_::_,_,h,_=>h.elim
 |_::_,_,[],_,h,_=>h.elim
 |_::_,_,_::_,_,h,h'=>⟨h.1,qhJ h.2 h'⟩
theorem qjV{f:FuncId}{ar:Value->Array Value}{O0:Nat->Prop}:∀(α β:Ty) (e:Ty.list false 0 α = .list false 0 β) (GH:List α.den) (xs:List β.den) (cs:Nat->List Value),xs=(show List β.den from(e▸(show(Ty.list false 0 α).den from GH):(Ty.list false 0 β).den))->α.ay=true->(∀(i:Nat) x,GH[i]? = some x->qm P α w Hf x (cs i) [])->Rr P f ar GH.length (λi=>rG α (cs i)) Hf O0 w->
  β.ay=true/\(∀(i:Nat) x,xs[i]? = some x->qm P β w Hf x (cs i) [])/\Rr P f ar xs.length (λi=>rG β (cs i)) Hf O0 w:=by
 intro α β e GH xs cs hx h1 h2 h3
 injection e with _ _ e'
 subst e'
 subst hx
 exact⟨h1,h2,h3⟩
def zc(aa:jB):Code->Bool
 |.region id ops true=>(nP id aa.mK&&Region.noSelect ops)||xb aa ops
 |.seq a b=>zc aa a&&zc aa b
 |.cond _ a b=>zc aa a&&zc aa b
 |.block _ c=>zc aa c
 |.loop c=>zc aa c
 |.rangeFunc _ _ a b=>uH aa a&&uH aa b
 |_=>true
theorem AK(aa7:P.follows .mixedOrders=true)(ae:qx P aa)(hit:∀f it,lk aa.tS f=some it->Mo P f it){Sy:Operand}{sQ:Array Tmp}{assign body:Code}{n:Nat}{k:X->St->Option R}(hl:qb2 aa (.rangeFunc Sy sQ assign body))(hra:uH aa assign=true)(hrb:uH aa body=true)
  (hC:qD C aa) (hs:j1 P C s a w) (h:run aa n (.rangeFunc Sy sQ assign body) s k=some r):(Code.rangeFunc Sy sQ assign body).wp P (G' P C k r) a w:=by
 obtain⟨H,Φ,gn,_⟩:=hs
 simp only[run]at h
 split at h
 case h_2=>cases h
 rename_i key f fa aG hkey hg
 split at h
 case h_2=>cases h
 rename_i it li V_ yn
 split at h
 case h_2=>cases h
 rename_i l hgl
 cases hq:Nat.blt f 5000000&&fa.aY&&aG.aY&&(fa.mo||aG.mo)&&s.mp.isNone&&it.ps.all reads&&apart (qI it.ps (fa.list++aG.list)++qI li.ps l) (qG it.ps (fa.list++aG.list)++qG li.ps l)&&eW aa.nt sQ.toList li.a&&Nat.ble li.ps.length aa.nt&&li.ps.all j3.x_ with
 |false=>rw[hq]at h;cases h
 |true=>
 rw[hq,cond_true]at h
 simp only[Bool.and_eq_true]at hq
 obtain⟨⟨⟨⟨⟨⟨⟨⟨⟨hf5,hfa⟩,ht⟩,hnl⟩,_⟩,abh⟩,hap⟩,hp⟩,hnt⟩,nE⟩:=hq
 have hf5:f<5000000:=Eq.mp Nat.blt_eq hf5
 have hnt:li.ps.length<=aa.nt:=Nat.le_of_ble_eq_true hnt
 obtain⟨cl,dH⟩:∃cl,cl=fa.list++aG.list:=⟨_,rfl⟩
 rw[<-dH]at hap h
 obtain⟨NK,VO⟩:=Kr hap
 have mE:(qI li.ps l).Nodup:=(List.nodup_append.1 NK).2.1
 have uO:∀x∈qI li.ps l,x∉qG it.ps cl++qG li.ps l:=λx hx=>VO x (List.mem_append_right _ hx)
 have aa5:∀x∈qI it.ps cl,x∉qG it.ps cl++qG li.ps l:=λx hx=>VO x (List.mem_append_left _ hx)
 have aa6:(qI it.ps cl).Nodup:=(List.nodup_append.1 NK).1
 have VN:∀x∈qI it.ps cl,∀y∈qI li.ps l,x≠y:=(List.nodup_append.1 NK).2.2
 obtain⟨hla,hlb,heq⟩:=hl
 have heq:=heq key li hkey yn
 obtain⟨eC,abj,Wb⟩:=hit _ it V_
 obtain⟨LK,us,hv,hn0,CG⟩:=ql gn qy hg
 have Ck:dl (qi P C w H Φ s.obj) fa.list LK.toList:=sN hfa (by simpa using hn0)
 have Cj:dl (qi P C w H Φ s.obj) aG.list us.toList:=sN ht (by simpa using CG)
 obtain⟨cv,hcv,VF,abf,Wt⟩:∃cv:List Value,cv=LK.toList++us.toList/\dl (qi P C w H Φ s.obj) cl cv/\itF (Tr f fa)=f/\∀y,Nt (Tr f fa) cv.toArray y=LK ++ #[y]++us:=by
  refine⟨_,rfl,?_,?_,?_⟩
  ·rw[dH]
   exact qhJ Ck Cj
  ·unfold Tr itF
   cases fa with
   |nil=>rw[show Nat.ble 5000000 f=false from by rw[<-Bool.not_eq_true,Nat.ble_eq];omega];rfl
   |_=>simp only[];rw[show Nat.ble 5000000 (5000000+f)=true from by rw[Nat.ble_eq];omega,cond_true];omega
  ·intro y
   unfold Tr Nt
   rw[Bool.or_eq_true]at hnl
   cases fa with
   |nil=>
    have e0:LK = #[]:=by
     cases mD:LK.toList with
     |nil=>exact Array.ext' (by simpa using mD)
     |cons x r=>rw[mD]at Ck;exact Ck.elim
    simp only[]
    rw[show Nat.ble 5000000 f=false from by rw[<-Bool.not_eq_true,Nat.ble_eq];omega,cond_false,e0]
    simp
   |_=>
    have hcn:aG = .nil:=by
     cases aG with
     |nil=>rfl
     |_=>simp[AV.mo]at hnl
    subst hcn
    have e0:us = #[]:=by
     cases mD:us.toList with
     |nil=>exact Array.ext' (by simpa using mD)
     |cons x r=>rw[mD]at Cj;exact Cj.elim
    simp only[]
    rw[show Nat.ble 5000000 (5000000+f)=true from by rw[Nat.ble_eq];omega,cond_true,e0]
    simp
 have VE:=qjl gn hgl
 obtain⟨Hf,m1,m2,m3,m4,m5⟩:=qh.aQ (qG it.ps cl++qG li.ps l) gn
 obtain⟨dc,h,Yc,Ws,zy⟩:=xO ae gn m1 (λid aF=>m3 id (List.mem_append_left _ aF)) VF h
 obtain⟨d,h,ai,hargs,hmr⟩:=xO ae gn m1 (λid aF=>m3 id (List.mem_append_right _ aF)) VE h
 rw[qj]at h
 replace h:=Option.bind_eq_some_iff.1 h
 obtain⟨GH,hx0,h⟩:=h
 rw[qj]at h
 replace h:=Option.bind_eq_some_iff.1 h
 obtain⟨xs,hx,h⟩:=h
 rw[qj]at h
 replace h:=Option.bind_eq_some_iff.1 h
 obtain⟨o,ho,h⟩:=h
 have h:=qlU h
 obtain⟨cn,hmo⟩:=ze hmr
 obtain⟨NU,Ct⟩:=ze zy
 have aa4:(qc Yc).Nodup:=by
  rw[NU]
  refine Hw aa6 (λid aF=>?_) (λi hi j hj hij b hb=>?_)
  ·obtain⟨o,ho⟩:=Ct id aF
   exact(gn.os id o ho).1.2.1
  ·obtain⟨o,ho⟩:=Ct i hi
   obtain⟨o',ho'⟩:=Ct j hj
   exact gn.aN i j o o' hij ho ho' b hb
 have hG:∀b∈qc Yc,Hf b=none/\b<w.heap.size/\b∉qc ai:=by
  intro b hb
  rw[NU]at hb
  obtain⟨id,aF,hb⟩:=List.mem_flatMap.1 hb
  obtain⟨o,ho⟩:=Ct id aF
  obtain⟨q1,q2,q3⟩:=(gn.os id o ho).2 b hb
  refine⟨?_,q3,λcO=>?_⟩
  ·cases hq:Hf b with
   |none=>rfl
   |some c=>
    rcases m2 b c hq with h1|⟨dX,nZ,o2,df,cO⟩
    ·rw[q1]at h1;cases h1
    ·exact absurd cO (gn.aN id dX o o2 (by rintro rfl;exact aa5 id aF nZ) ho df b hb)
  ·rw[cn]at cO
   obtain⟨dX,nZ,cO⟩:=List.mem_flatMap.1 cO
   obtain⟨o2,df⟩:=hmo dX nZ
   exact gn.aN id dX o o2 (VN id aF dX nZ) ho df b hb cO
 obtain⟨yd,hod⟩:=UE abh zy m4
 have hG2:∀b∈qc Yc,(C.M0 b\/C.w0.heap.size<=b)/\∀j o,(HB (s.aQ (qG it.ps cl++qG li.ps l)) it.ps cl).obj j=some o->b∉(Φ j).fp:=by
  intro b hb
  rw[NU]at hb
  obtain⟨id,aF,hb⟩:=List.mem_flatMap.1 hb
  obtain⟨o,ho⟩:=Ct id aF
  refine⟨((gn.os id o ho).2 b hb).2.1,λj o2 hj=>?_⟩
  rw[hod]at hj
  split at hj
  ·cases hj
  ·rename_i hjn
   rw[m5]at hj
   split at hj
   ·cases hj
   ·exact gn.aN id j o o2 (λe=>hjn (e▸aF)) ho hj b hb
 obtain⟨cs,hcs,hseq⟩:=Wb dc GH hx0 w Hf cv Yc m4.hok Ws aa4 (λb hb=>⟨(hG b hb).1,(hG b hb).2.1⟩)
 obtain⟨e,Nx⟩:=qg hx
 obtain⟨hfz,hcs,hseq⟩:=qjV it.a li.a e GH xs cs Nx abj hcs hseq
 have aq:(qc ai).Nodup:=by
  rw[cn]
  refine Hw mE (λid aF=>?_) (λi hi j hj hij b hb=>?_)
  ·obtain⟨o,ho⟩:=hmo id aF
   exact(gn.os id o ho).1.2.1
  ·obtain⟨o,ho⟩:=hmo i hi
   obtain⟨o',ho'⟩:=hmo j hj
   exact gn.aN i j o o' hij ho ho' b hb
 have hnone:∀b∈qc ai,Hf b=none/\b<w.heap.size:=by
  intro b hb
  rw[cn]at hb
  obtain⟨id,aF,hb⟩:=List.mem_flatMap.1 hb
  obtain⟨o,ho⟩:=hmo id aF
  obtain⟨q1,q2,q3⟩:=(gn.os id o ho).2 b hb
  refine⟨?_,q3⟩
  cases hq:Hf b with
  |none=>rfl
  |some c=>
   rcases m2 b c hq with h1|⟨dX,nZ,o2,df,cO⟩
   ·rw[q1]at h1;cases h1
   ·exact absurd cO (gn.aN id dX o o2 (by rintro rfl;exact uO id aF nZ) ho df b hb)
 have hds:a.defers=C.ds:=gn.defers
 rw[abf]at eC hseq
 refine qoi aa7 nE ae heq hla hlb hra hrb hp hnt m4.hok hargs aq hnone hG (gn.size.trans hC.nt) rfl (gf:=f) (lb:=us) Wt hv eC hfz hcs hseq ho ?_
 rintro D W hD ⟨H',ag,k1,k2,k3,k4,k5,k6,k7⟩ hh
 have bE:=qh5 (dst:=none) ae hC yd rfl k2 k3 (p:=⟨li.ps,[],λ_=>none⟩) (show(0:Nat)<1000 by decide) hG2 (us:=[]) (aJ:=[]) (y:=((),o.2)) k1 k4
  (Be (λid aF=>by rw[hod,if_neg (λh=>VN id h id aF rfl),m5,if_neg (uO id aF)]) hmr) hargs k5 ⟨rfl,rfl⟩ (by simpa using k6) (by simpa using k7) mE
 obtain⟨H2,jj,bE⟩:=bE
 have hact:({({a with defers:={target:=.collected D,args:=#[]}::a.defers}:Act)with defers:=C.ds}:Act)=a:=by
  rw[<-hds]
 have CC:xK P C k r o.1 {a with defers:={target:=.collected D,args:=#[]}::a.defers} W:=by
  refine⟨_,[{target:=.collected D,args:=#[]}],by rw[hds];rfl,⟨by simp,?_⟩,?_,h⟩
  ·intro x hx
   obtain rfl:=List.mem_singleton.1 hx
   exact⟨D,rfl,Nat.le_trans gn.mod.size hD,hh⟩
  ·rw[hact]
   exact⟨H2,jj,bE.aL none,trivial⟩
 obtain⟨x,md⟩:=o
 cases x with
 |norm=>exact CC
 |exit i=>exact CC
 |ret=>exact CC
theorem qe9{c:Code}{Q Q':Exit->Act->World->Prop}(hq:∀e a w,Q e a w->Q' e a w):∀(m:Nat) {a:Act} {w:World},Code.rounds P c Q m a w->Code.rounds P c Q' m a w
 |0,_,_,h=>h
 |m+1,_,_,h=>wp_mono h (λe a w hp=>by
  cases e with
  |normal=>exact qe9 hq m hp
  |_=>exact hq _ _ _ hp)
theorem Ki(hm:P.follows .mixedOrders=true)(ae:qx P aa)(hit:∀f it,lk aa.tS f=some it->Mo P f it):∀(c:Code) {C:cM} (_:qD C aa) {R:Type} {r:R} {n:Nat} {s:St} {k:X->St->Option R} {a:Act} {w:World},pX aa c->qb2 aa c->zc aa c=true->j1 P C s a w->run aa n c s k=some r->c.wp P (G' P C k r) a w
 |.skip,C,hC,R,r,n,s,k,a,w,_,_,_,hs,h=>wp_skip (.one hs h)
 |.ret,C,hC,R,r,n,s,k,a,w,_,_,_,hs,h=>wp_ret (.one hs h)
 |.exit i,C,hC,R,r,n,s,k,a,w,_,_,_,hs,h=>wp_exit (.one hs h)
 |.region id ops draw,C,hC,R,r,n,s,k,a,w,hl,_,hd,hs,h=>wp_mono (Gd hm ae hC (.region id ops draw) hl (by cases draw<;>first|rfl|exact hd) hs h) (λ_ _ _ hp=>.H_ hp)
 |.seq x y,C,hC,R,r,n,s,k,a,w,hl,hr,hd,hs,h=>by
  simp only[zc,Bool.and_eq_true]at hd
  refine wp_seq (wp_mono (Ki hm ae hit x hC hl.1 hr.1 hd.1 hs h) ?_)
  intro e a w hp
  cases e with
  |normal=>
   obtain⟨s',ds,dK,hD,hs',h'⟩:=hp
   obtain⟨H,Φ,gn,hs2⟩:=hs'.iQ ds dK
   exact wp_mono (Ki hm ae hit y (qm1 hC) hl.2 hr.2 hd.2 hs2 h') (λ_ _ _ hp=>hp.eH gn hD)
  |exit i=>exact hp
  |ret=>exact hp
  |_=>exact hp.elim
 |.cond c x y,C,hC,R,r,n,s,k,a,w,hl,hr,hd,hs,h=>by
  simp only[zc,Bool.and_eq_true]at hd
  simp only[run]at h
  split at h
  ·rename_i b hb
   obtain⟨H,Φ,gn,hM⟩:=hs
   have hv:=(ql gn qy hb).bool
   refine wp_cond hv ?_
   cases b with
   |true=>exact Ki hm ae hit x hC hl.1 hr.1 hd.1 ⟨H,Φ,gn,hM⟩ h
   |false=>exact Ki hm ae hit y hC hl.2 hr.2 hd.2 ⟨H,Φ,gn,hM⟩ h
  ·cases h
 |.block i c,C,hC,R,r,n,s,k,a,w,hl,hr,hd,hs,h=>by
  refine wp_block (wp_mono (Ki hm ae hit c hC hl hr hd hs h) ?_)
  intro e a w hp
  cases e with
  |normal=>exact hp
  |exit j=>
   obtain⟨s',ds,q1,q2,q3,h'⟩:=hp
   simp only[Yx]at h'
   unfold Exit.inBlock
   cases hb:Nat.beq j i with
   |true=>
    rw[hb]at h'
    obtain rfl:=Nat.eq_of_beq_eq_true hb
    simp only[if_true]
    exact⟨s',ds,q1,q2,q3,h'⟩
   |false=>
    rw[hb]at h'
    simp only[Nat.ne_of_beq_eq_false hb,if_false]
    exact⟨s',ds,q1,q2,q3,h'⟩
  |ret=>exact hp
  |_=>exact hp.elim
 |.loop c,C,hC,R,r,n,s,k,a,w,hl,hr,hd,hs,h=>by
  simp only[run]at h
  split at h
  ·cases h
  ·rename_i key hkey
   split at h
   ·rename_i hn
    split at h
    ·cases h
    ·rename_i li yn
     split at h
     ·cases h
     ·rename_i d dK
      have ho:=qit h
      obtain⟨mF,heq⟩:=hl.2.2 key li hkey hn yn
      have hs':=uF dK hs
      have rounds:∀m {C:cM} (_:qD C aa) d a w,li.w m d (λo=>vo k li.outs o=some r)=some ()->j1 P C (li.ins.fill d) a w->Code.rounds P c (G' P C k r) m a w:=by
       intro m
       induction m with
       |zero=>intro C _ d a w hg;rw[mF]at hg;cases hg
       |succ m ih=>
        intro C hC d a w hg yd
        rw[heq]at hg
        refine wp_mono (Ki hm ae hit c hC hl.1 hr hd yd hg) ?_
        intro e a w hp
        cases e with
        |normal=>
         obtain⟨s2,ds,q1,q2,hs2,h2⟩:=hp
         simp only[qc3]at h2
         split at h2
         ·rename_i d2 hd2
          obtain⟨H,Φ,gn,i_⟩:=hs2.iQ ds q1
          exact qe9 (λ_ _ _ hp=>hp.eH gn q2) m (ih (qm1 hC) d2 a w h2 (uF hd2 i_))
         ·cases h2
        |exit j=>
         obtain⟨s2,ds,q1,q2,hs2,h2⟩:=hp
         simp only[qc3]at h2
         split at h2
         case h_2=>cases h2
         rename_i o2 df
         obtain⟨s3,i_,h3⟩:=xR hs2 (k:=k) df
         exact⟨s3,ds,q1,q2,i_,by rw[<-h3];exact MK h2⟩
        |ret=>
         obtain⟨s2,ds,q1,q2,hs2,h2⟩:=hp
         simp only[qc3]at h2
         split at h2
         case h_2=>cases h2
         rename_i o2 df
         obtain⟨s3,i_,h3⟩:=xR hs2 (k:=k) df
         exact⟨s3,ds,q1,q2,i_,by rw[<-h3];exact MK h2⟩
        |_=>exact hp.elim
      exact wp_loop_rounds n (rounds n hC d a w ho hs')
   ·rename_i li yn
    split at h
    ·cases h
    ·rename_i d dK
     rw[qj]at h
     replace h:=Option.bind_eq_some_iff.1 h
     obtain⟨o,ho,h⟩:=h
     obtain⟨mF,heq⟩:=hl.2.1 key li hkey yn
     have hs':=uF dK hs
     have rounds:∀m {C:cM} (_:qD C aa) d a w,li.g m d=some o->j1 P C (li.ins.fill d) a w->Code.rounds P c (G' P C k r) m a w:=by
      intro m
      induction m with
      |zero=>intro C _ d a w hg;rw[mF]at hg;cases hg
      |succ m ih=>
       intro C hC d a w hg yd
       rw[heq]at hg
       refine wp_mono (Ki hm ae hit c hC hl.1 hr hd yd hg) ?_
       intro e a w hp
       cases e with
       |normal=>
        obtain⟨s2,ds,q1,q2,hs2,h2⟩:=hp
        simp only[qV]at h2
        split at h2
        ·rename_i d2 hd2
         obtain⟨H,Φ,gn,i_⟩:=hs2.iQ ds q1
         exact qe9 (λ_ _ _ hp=>hp.eH gn q2) m (ih (qm1 hC) d2 a w h2 (uF hd2 i_))
        ·cases h2
       |exit j=>
        obtain⟨s2,ds,q1,q2,hs2,h2⟩:=hp
        obtain⟨s3,i_,h3⟩:=xR hs2 (k:=k) h2
        exact⟨s3,ds,q1,q2,i_,by rw[<-h3];exact h⟩
       |ret=>
        obtain⟨s2,ds,q1,q2,hs2,h2⟩:=hp
        obtain⟨s3,i_,h3⟩:=xR hs2 (k:=k) h2
        exact⟨s3,ds,q1,q2,i_,by rw[<-h3];exact h⟩
       |_=>exact hp.elim
     exact wp_loop_rounds n (rounds n hC d a w ho hs')
 |.rangeFunc g ps x y,C,hC,R,r,n,s,k,a,w,_,hr,hd,hs,h=>by
  simp only[zc,Bool.and_eq_true]at hd
  exact AK hm ae hit hr hd.1 hd.2 hC hs h
 |.scope _,_,_,_,_,_,_,_,_,_,_,_,_,_,h=>by cases h
 |.label _,_,_,_,_,_,_,_,_,_,_,_,_,_,h=>by cases h
 |.goto _,_,_,_,_,_,_,_,_,_,_,_,_,_,h=>by cases h
 |.refuse _,_,_,_,_,_,_,_,_,_,_,_,_,_,h=>by cases h
def RC(W W':World):Prop:=∀(b:Nat) (o:Go.Obj),mq o=true->W.heap[b]? = some o->W'.heap[b]? = some o
theorem RC.cell(h:RC W W'){ad:Addr}{v:Value}(hv:W.cell? ad=some v):W'.cell? ad=some v:=by
 unfold World.cell? at hv ⊢
 cases e:W.heap[ad.block]? with
 |none=>rw[e]at hv;simp at hv
 |some o=>
  rw[e]at hv
  cases o with
  |cells c t f=>rw[h _ _ rfl e];exact hv
  |_=>simp at hv
theorem RC.Np(h:RC W W'){o:Obj}{φ:qH}{p:List qu}{b off:Nat}(hl:jV W o φ p b off):jV W' o φ p b off:=by
 obtain⟨row,τ,x⟩:=o
 cases row with
 |false=>exact jT.keep τ (λ_ _ _ _ he=>h.cell he) hl
 |true=>
  unfold jV at hl ⊢
  simp only at hl ⊢
  split at hl
  ·obtain⟨g,n,cap,e,hl⟩:=hl
   exact⟨g,n,cap,e,jT.keep _ (λ_ _ _ _ he=>h.cell he) hl⟩
  ·exact hl
theorem qh.Tl(hs:qh P C s a w H Φ)(hsame:RC w w')(hsz:w.heap.size<=w'.heap.size)(cH:jO C.M0 C.w0 w'):qh P C s a w' H Φ:=by
 refine⟨hs.defers,hs.size,hs.le,?_,hs.hnew,cH,?_,?_,hs.aN,hs.pins⟩
 ·intro b c hb
  have e:=hs.hok b c hb
  cases c with
  |cells c=>obtain⟨t,f,e⟩:=e;exact⟨t,f,hsame _ _ rfl e⟩
  |map es n=>exact hsame _ _ rfl e
 ·intro t av ht
  have h1:qi P C w' H Φ s.obj (av.af λ_=>false) (a.tmps.getD t undef):=qi.bK (λ_=>false) (FH.le_refl H) (λid p v _ hh=>by
    obtain⟨o,y,b,off,h1,h2,h3,h4,h5⟩:=hh
    exact⟨o,y,b,off,h1,h2,h3,hsame.Np h4,h5⟩) (λid p v _ hh=>by
    obtain⟨o,y,h1,h2,h3⟩:=hh
    refine⟨o,y,h1,h2,?_⟩
    cases hb:o.row&&p.isEmpty with
    |true=>rw[hb]at h3;exact h3
    |false=>
     rw[hb]at h3
     obtain⟨b,off,blk,t,k1,k2,k3⟩:=h3
     exact⟨b,off,blk,t,hsame.Np k1,hsame _ _ rfl k2,k3⟩) (λid p t e l v _ hh=>by
    obtain⟨o,h1,h3,h4,fp,h0,h5,h6⟩:=hh
    refine⟨o,h1,h3,h4,fp,h0,qm.mono _ (FH.le_refl _) (λb hb=>?_) h5,λb hb=>⟨Nat.lt_of_lt_of_le (h6 b hb).1 hsz,?_⟩⟩
    ·obtain⟨o',e,e2⟩:=qm.dat _ h5 b hb
     rw[e,hsame _ _ e2 e]
    ·rcases(h6 b hb).2 with hf|q1
     ·exact .inl ⟨hf.fz,hf.obj,hf.may,Nat.lt_of_lt_of_le hf.lt hsz⟩
     ·refine .inr ?_
      unfold ia at q1 ⊢
      cases hr:o.row&&p.isEmpty with
      |true=>rw[hr]at q1;exact q1
      |false=>
       rw[hr]at q1
       obtain⟨y,bb,off,blk,t,f,z1,z2,z3,z4,z5⟩:=q1
       exact⟨y,bb,off,blk,t,f,z1,hsame.Np z2,hsame _ _ rfl z3,qm.mono _ (FH.le_refl _) (λk hk=>by
        obtain⟨o',e,e2⟩:=qm.dat _ z4 k hk
        rw[e,hsame _ _ e2 e]) z4,z5⟩) av _ (hs.ts t av ht)
  rwa[qi.e_ _ (λ_=>rfl)]at h1
 ·intro id o ho
  have h:=hs.os id o ho
  exact⟨h.1.frame (FH.le_refl _) (λb hb=>by obtain⟨o',e,e2⟩:=h.1.dat b hb;rw[e,hsame _ _ e2 e]),λb hb=>⟨(h.2 b hb).1,(h.2 b hb).2.1,Nat.lt_of_lt_of_le (h.2 b hb).2.2 hsz⟩⟩
theorem qgF{fn:Func}{n:Nat}{tmps:Array Value}{R:Ending->World->Prop}{B:Nat}:∀{ds:List Deferred} {w:World},ur B ds w->
  (∀w',RC w w'->w'.heap.size=w.heap.size->w'.os=w.os->w'.tape=w.tape->w'.output=w.output->(∀k,k<B->w'.heap[k]? = w.heap[k]?)->∃v,(results fn tmps).run P w' = .ok v w'/\R (.returned v) w')->LeavesInM Fence.wide n P fn tmps R ds .returning w
 |[],w,_,h=>h w (λ_ _ _ e=>e) rfl rfl rfl rfl (λ_ _=>rfl)
 |d::ds,w,hD,h=>by
  obtain⟨aq,hD⟩:=hD
  obtain⟨D,e,hB,hh⟩:=hD d List.mem_cons_self
  have hlt:=(Array.getElem?_eq_some_iff.1 hh).1
  rw[List.nodup_cons]at aq
  refine⟨by simp,.inl ⟨D,_,by rw[e],run_takeDeferred hh,qgF ⟨aq.2,λx hx=>?_⟩ (λw' q1 q2 q3 q4 q5 q6=>h w' (λb o' ho' e2=>q1 _ _ ho' ((World.putObj_heap_other (λhb=>by rw[hb,hh]at e2;cases e2;cases ho')).trans e2)) (q2.trans (by simp)) (q3.trans rfl) (q4.trans rfl) (q5.trans rfl) (λk hk=>(q6 k hk).trans (World.putObj_heap_other (by omega))))⟩⟩
  ·obtain⟨D',e',hB',KX⟩:=hD x (List.mem_cons_of_mem _ hx)
   refine⟨D',e',hB',(World.putObj_heap_other ?_).trans KX⟩
   rintro rfl
   exact aq.1 (by rw[e,<-e'];exact hx)
theorem Jj(ae:qx P aa){fn:Func}{ps:List j3}{rs:List fk}{y:bH rs×aV ps}{vs:List Value}{ai:List qH}{d:aI ps}(hargs:jU P w H ps d vs ai):∀(s:St) (a':Act) (w':World),dS P (sK w H aa.nt ps ai) s a' w'->JV aa fn ps rs .ret s=some y->
   a'.defers=[]/\∃v,(results fn a'.tmps).run P w' = .ok v w'/\∃us H' ag aJ,Ending.returned v = .returned (oD us)/\jO (· ∈qc ai) w w'/\H.le H'/\cI H' w'/\(∀b c,H' b=some c->H b=some c\/b∈qc ai\/w.heap.size<=b)/\
    gv P w' H' rs y.1 us aJ/\jR P w' H' ps y.2 vs ag/\(qc (aJ++ag)).Nodup/\∀b∈qc (aJ++ag),H' b=none/\(b∈qc ai\/w.heap.size<=b)/\b<w'.heap.size:=by
 obtain⟨_,_,_,h4,_⟩:=vl (C:=sK w H aa.nt ps ai) 0 hargs
 rintro s a' w' ⟨H2,jj,hs⟩ h
 simp only[JV]at h
 split at h
 case h_2=>cases h
 rename_i md yl
 obtain⟨T,hand,t1,t2,t3,t4⟩:=MB ae hs h
 obtain⟨Hf,m1,m2,m3,m4,m5⟩:=qh.aQ T hs
 obtain⟨d',us,aJ,g1,g2,g3,g4,g5⟩:=t4 Hf m1 m3
 cases g1
 obtain⟨ag,k1,k2,k3⟩:=zn hs m1 (i:=0) hargs (λx hx=>by
  obtain⟨id,φ⟩:=x
  have dN:(sK w H aa.nt ps ai).gQ id=some φ:=FW h4 hx
  exact hs.pins.1 id φ dN) yl
 have vv:=zm (ps:=ps) (i:=0)
 have kF:qc (aJ++ag)=qc aJ++qc ag:=by simp[qc]
 have bh:∀id,id∉T->∀o,s.obj id=some o->∀b∈(jj id).fp,Hf b=none/\(b∈qc ai\/w.heap.size<=b)/\b<w'.heap.size:=by
  intro id aF o ho b hb'
  obtain⟨q1,q2,q3⟩:=(hs.os id o ho).2 b hb'
  refine⟨?_,q2,q3⟩
  cases hq:Hf b with
  |none=>rfl
  |some c=>
   rcases m2 b c hq with h1|⟨j,hj,o',ho',dY⟩
   ·rw[q1]at h1;cases h1
   ·exact absurd dY (hs.aN id j o o' (by rintro rfl;exact aF hj) ho ho' b hb')
 refine⟨hs.defers,_,qe7 g2,us,Hf,ag,aJ,rfl,hs.mod,FH.le_trans hs.le m1,m4.hok,m4.hnew,g3,k1,?_,?_⟩
 ·rw[kF,List.nodup_append]
  refine⟨g4,?_,?_⟩
  ·rw[k2]
   refine Hw vv.2 (λid aF=>?_) (λi hi j hj hij b hb'=>?_)
   ·obtain⟨o,ho⟩:=k3 id aF
    exact(hs.os id o ho).1.2.1
   ·obtain⟨o,ho⟩:=k3 i hi
    obtain⟨o',ho'⟩:=k3 j hj
    exact hs.aN i j o o' hij ho ho' b hb'
  ·rintro b kG _ cO rfl
   obtain⟨i,hi,o,ho,yt⟩:=g5 b kG
   rw[k2]at cO
   obtain⟨j,hj,dY⟩:=List.mem_flatMap.1 cO
   obtain⟨o',ho'⟩:=k3 j hj
   exact hs.aN i j o o' (by rintro rfl;exact(t3 i hi).1 hj) ho ho' b yt dY
 ·intro b hb'
  rw[kF]at hb'
  rcases List.mem_append.1 hb' with kG|cO
  ·obtain⟨i,hi,o,ho,yt⟩:=g5 b kG
   exact bh i (t3 i hi).2 o ho b yt
  ·rw[k2]at cO
   obtain⟨j,hj,dY⟩:=List.mem_flatMap.1 cO
   obtain⟨o',ho'⟩:=k3 j hj
   exact bh j (λhT=>t1 j hT hj) o' ho' b dY
theorem qoA(hm:P.follows .mixedOrders=true)(ae:qx P aa)(hit:∀f it,lk aa.tS f=some it->Mo P f it){f:FuncId}{fn:Func}{c:Code}(hf:P.funcs[f]? = some fn)(hb:fn.body=some c)(hnt:fn.ntmps=aa.nt)(hl:pX aa c)(hr:qb2 aa c)(hd:zc aa c=true)
  {p:qS} (hps:p.ps.length<=aa.nt) (hg:∀d y,p.g d=some y->∃n,qL aa n fn c p.ps p.rs d=some y):TG P f p:=by
 intro d y hy w H vs ai hok hargs aq hfr
 obtain⟨n,hn⟩:=hg d y hy
 have bE:=Zn hok hargs aq hfr hps
 have hC:=qhu (aa:=aa) hargs
 refine(callsIn_wide (n:=0)).1 (callsIn_of_wp_marks hf hb trivial ((wpIn_wide (n:=0)).2 ?_))
 rw[hnt]
 refine wp_mono (Ki hm ae hit c hC hl hr hd ⟨H,_,bE,trivial⟩ hn) ?_
 have fin:∀{x:X} {a':Act} {w':World},(match x with|.exit _=>False|_=>True)->xK P (sK w H aa.nt p.ps ai) (JV aa fn p.ps p.rs) y x a' w'->LeavesInM Fence.wide 0 P fn a'.tmps (λe w'=>∃us H' ag aJ,e = .returned (oD us)/\jO (· ∈qc ai) w w'/\H.le H'/\cI H' w'/\(∀b c,H' b=some c->H b=some c\/b∈qc ai\/w.heap.size<=b)/\
   gv P w' H' p.rs y.1 us aJ/\jR P w' H' p.ps y.2 vs ag/\(qc (aJ++ag)).Nodup/\∀b∈qc (aJ++ag),H' b=none/\(b∈qc ai\/w.heap.size<=b)/\b<w'.heap.size) a'.defers .returning w':=by
  intro x a' w' hx ⟨s,ds,e1,hD,⟨H2,jj,hs,_⟩,hk⟩
  have hk:JV aa fn p.ps p.rs .ret s=some y:=by cases x<;>first|exact hk|exact hx.elim
  have e1:a'.defers=ds:=by rw[e1];exact List.append_nil ds
  rw[e1]
  refine qgF hD (λw2 q1 q2 q3 q4 q5 q6=>?_)
  have hs2:=hs.Tl q1 (Nat.le_of_eq q2.symm) (hs.mod.bA (N:=λk=>w.heap.size<=k) ⟨q3,q4,q5,Nat.le_of_eq q2.symm,λk _ hk=>q6 k (Nat.lt_of_not_le hk)⟩ (λi hi=>.inr hi))
  obtain⟨_,v,h1,us,H',ag,aJ,h2,rest⟩:=Jj ae hargs s _ w2 ⟨H2,jj,hs2⟩ hk
  exact⟨v,h1,us,H',ag,aJ,h2,rest⟩
 intro e a' w' hp
 cases e with
 |normal=>exact fin (x:=.norm) trivial hp
 |ret=>exact fin (x:=.ret) trivial hp
 |exit i=>obtain⟨s,ds,_,_,_,hk⟩:=hp;cases hk
 |_=>exact hp.elim
end
end Go.Vi
