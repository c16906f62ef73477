/- The abstract interpreter 'Vi', thirty-eighth part: all code, ranges over functions with it; the contract of a function. No condition beyond those typed in each theorem. -/
import Derived.Test.YtmlocmhkfnojbaaVi37
namespace Go.Vi
open Go.RowKit
section
variable {P:Program} {C:Ctx} {cfg:jG} {R:Type} {r:R} {s s' s1:St} {a a' a1:Act} {w w' W W' W1:World} {H H' Hf:FH} {Φ Φ':Nat->qB}
theorem qiO(hs:qg P C s a w H Φ):∀{tl:List Nat} {l:List AV},qkG s tl=some l->qaa (qh P C w H Φ s.obj) l (tl.map λt=>a.tmps.getD t undef)
 |[],l,h=>by cases h;trivial
 |t::tl,l,h=>by
  simp only[qkG]at h
  split at h
  ·rename_i av r h1 h2
   cases h
   exact⟨hs.ts t av h1,qiO hs h2⟩
  ·cases h
theorem qlm{x:X}{k:X->Option R}:∀{l:List X},pickK l x k=some r->k x=some r
 |[],h=>by cases h
 |y::l,h=>by
  unfold pickK at h
  cases hb:y.same x with
  |true=>rw[hb,cond_true,X.same_eq hb]at h;exact h
  |false=>rw[hb]at h;exact qlm h
theorem qcd{os:Nat->Option Obj}:∀{ps:List jT} {l:List AV} {Φs:List qB} {s:St},ps.all reads=true->qd5 os Φ ps l Φs->qg P C s a w H Φ->qg P C (qbN s ps l) a w H Φ/\∀j,(qbN s ps l).obj j=if j∈qE ps l then none else s.obj j
 |[],l,Φs,s,_,_,hs=>⟨by cases l<;>exact hs,λj=>by cases l<;>simp[qbN,qE]⟩
 |.v _::ps,l,Φs,s,hr,hm,hs=>by
  obtain⟨av,l',φ,Φs',rfl,rfl,_,hm⟩:=hm
  exact qcd (ps:=ps) (by simpa[reads]using hr) hm hs
 |.r _::ps,l,Φs,s,hr,hm,hs=>by
  obtain⟨av,l',φ,Φs',rfl,rfl,_,hm⟩:=hm
  exact qcd (ps:=ps) (by simpa[reads]using hr) hm hs
 |.c _::ps,l,Φs,s,hr,hm,hs=>by
  obtain⟨av,l',φ,Φs',rfl,rfl,_,hm⟩:=hm
  exact qcd (ps:=ps) (by simpa[reads]using hr) hm hs
 |.gm τ::ps,l,Φs,s,hr,hm,hs=>by
  obtain⟨id,l',Φs',x,rfl,rfl,_,hm⟩:=hm
  obtain⟨h1,h2⟩:=qcd (ps:=ps) (by simpa[reads]using hr) hm (hs.remove id)
  refine⟨h1,λj=>?_⟩
  show(qbN ((s.kill id).setObj id none) ps l').obj j=_
  rw[h2,St.obj_setObj,St.kill,St.obj_killIf]
  simp only[qE,AV.name,List.singleton_append,List.mem_cons]
  by_cases e1:j∈qE ps l'
  ·rw[if_pos e1,if_pos (.inr e1)]
  ·rw[if_neg e1]
   by_cases e2:id=j
   ·rw[if_pos e2,if_pos (.inl e2.symm)]
   ·rw[if_neg e2,if_neg (λh=>h.elim (λh=>e2 h.symm) e1)]
 |.m _::_,_,_,_,hr,_,_=>by simp[reads]at hr
 |.mr _ _::_,_,_,_,hr,_,_=>by simp[reads]at hr
 |.t _ _::_,_,_,_,hr,_,_=>by simp[reads]at hr
 |.cm _ _::_,_,_,_,hr,_,_=>by simp[reads]at hr
theorem qhg{α β:Type}{R:α->β->Prop}:∀{l:List α} {l':List α} {m m':List β},qaa R l m->qaa R l' m'->qaa R (l++l') (m++m')
 |[],_,[],_,_,h=>h
 |[],_,_::_,_,h,_=>h.elim
 |_::_,_,[],_,h,_=>h.elim
 |_::_,_,_::_,_,h,h'=>⟨h.1,qhg h.2 h'⟩
theorem qjp{f:FuncId}{ar:Value->Array Value}{O0:Nat->Prop}:∀(α β:Ty) (e:Ty.list false 0 α = .list false 0 β) (xs0:List α.den) (xs:List β.den) (cs:Nat->List Value),xs=(show List β.den from(e▸(show(Ty.list false 0 α).den from xs0):(Ty.list false 0 β).den))->α.isFz=true->(∀(i:Nat) x,xs0[i]? = some x->qm P α w Hf x (cs i) [])->qfe P f ar xs0.length (λi=>encE α (cs i)) Hf O0 w->
  β.isFz=true/\(∀(i:Nat) x,xs[i]? = some x->qm P β w Hf x (cs i) [])/\qfe P f ar xs.length (λi=>encE β (cs i)) Hf O0 w:=by
 intro α β e xs0 xs cs hx h1 h2 h3
 injection e with _ _ e'
 subst e'
 subst hx
 exact⟨h1,h2,h3⟩
def qdw(cfg:jG):Code->Bool
 |.region id ops true=>(qdH id cfg.enum&&Region.noSelect ops)||drawR cfg ops
 |.seq a b=>qdw cfg a&&qdw cfg b
 |.cond _ a b=>qdw cfg a&&qdw cfg b
 |.block _ c=>qdw cfg c
 |.loop c=>qdw cfg c
 |.rangeFunc _ _ a b=>qai cfg a&&qai cfg b
 |_=>true
theorem range_ok(hmo2:P.follows .mixedOrders=true)(hcfg:qu P cfg)(hit:∀f it,lk cfg.iters f=some it->qg9 P f it){gop:Operand}{prms:Array Tmp}{assign body:Code}{n:Nat}{k:X->St->Option R}(hl:qbS cfg (.rangeFunc gop prms assign body))(hra:qai cfg assign=true)(hrb:qai cfg body=true)
  (hC:qz C cfg) (hs:jX P C s a w) (h:run cfg n (.rangeFunc gop prms assign body) s k=some r):(Code.rangeFunc gop prms assign body).wp P (qgy P C k r) a w:=by
 obtain⟨H,Φ,hsb,_⟩:=hs
 simp only[run]at h
 split at h
 case h_2=>cases h
 rename_i key f fa caps hkey hg
 split at h
 case h_2=>cases h
 rename_i it li hiter hli
 split at h
 case h_2=>cases h
 rename_i l hgl
 cases hq:Nat.blt f 5000000&&fa.isTup&&caps.isTup&&(fa.isNilT||caps.isNilT)&&s.mp.isNone&&it.ps.all reads&&apart (qE it.ps (fa.list++caps.list)++qE li.ps l) (qt it.ps (fa.list++caps.list)++qt li.ps l)&&okP cfg.nt prms.toList li.a&&Nat.ble li.ps.length cfg.nt&&li.ps.all jT.noT with
 |false=>rw[hq]at h;cases h
 |true=>
 rw[hq,cond_true]at h
 simp only[Bool.and_eq_true]at hq
 obtain⟨⟨⟨⟨⟨⟨⟨⟨⟨hf5,hfa⟩,ht⟩,hnl⟩,_⟩,hird⟩,hap⟩,hp⟩,hnt⟩,hnT⟩:=hq
 have hf5:f<5000000:=Eq.mp Nat.blt_eq hf5
 have hnt:li.ps.length<=cfg.nt:=Nat.le_of_ble_eq_true hnt
 obtain⟨cl,hcl⟩:∃cl,cl=fa.list++caps.list:=⟨_,rfl⟩
 rw[<-hcl]at hap h
 obtain⟨hmsA,hmtA⟩:=qcg hap
 have hms:(qE li.ps l).Nodup:=(List.nodup_append.1 hmsA).2.1
 have hmt:∀x∈qE li.ps l,x∉qt it.ps cl++qt li.ps l:=λx hx=>hmtA x (List.mem_append_right _ hx)
 have hmtc:∀x∈qE it.ps cl,x∉qt it.ps cl++qt li.ps l:=λx hx=>hmtA x (List.mem_append_left _ hx)
 have hmsc:(qE it.ps cl).Nodup:=(List.nodup_append.1 hmsA).1
 have hmx:∀x∈qE it.ps cl,∀y∈qE li.ps l,x≠y:=(List.nodup_append.1 hmsA).2.2
 obtain⟨hla,hlb,heq⟩:=hl
 have heq:=heq key li hkey hli
 obtain⟨hcal,hifz,hiseq⟩:=hit _ it hiter
 obtain⟨vs0,us,hv,hn0,hcaps⟩:=qk hsb qv hg
 have hrelf:qaa (qh P C w H Φ s.obj) fa.list vs0.toList:=qas hfa (by simpa using hn0)
 have hrelu:qaa (qh P C w H Φ s.obj) caps.list us.toList:=qas ht (by simpa using hcaps)
 obtain⟨cv,hcv,hrelc,hitF,har⟩:∃cv:List Value,cv=vs0.toList++us.toList/\qaa (qh P C w H Φ s.obj) cl cv/\itF (qlE f fa)=f/\∀y,itAr (qlE f fa) cv.toArray y=vs0 ++ #[y]++us:=by
  refine⟨_,rfl,?_,?_,?_⟩
  ·rw[hcl]
   exact qhg hrelf hrelu
  ·unfold qlE itF
   cases fa with
   |nil=>rw[show Nat.ble 5000000 f=false from by rw[<-Bool.not_eq_true,Nat.ble_eq];omega];rfl
   |_=>simp only[];rw[show Nat.ble 5000000 (5000000+f)=true from by rw[Nat.ble_eq];omega,cond_true];omega
  ·intro y
   unfold qlE itAr
   rw[Bool.or_eq_true]at hnl
   cases fa with
   |nil=>
    have e0:vs0 = #[]:=by
     cases hrelf':vs0.toList with
     |nil=>exact Array.ext' (by simpa using hrelf')
     |cons x r=>rw[hrelf']at hrelf;exact hrelf.elim
    simp only[]
    rw[show Nat.ble 5000000 f=false from by rw[<-Bool.not_eq_true,Nat.ble_eq];omega,cond_false,e0]
    simp
   |_=>
    have hcn:caps = .nil:=by
     cases caps with
     |nil=>rfl
     |_=>simp[AV.isNilT]at hnl
    subst hcn
    have e0:us = #[]:=by
     cases hrelf':us.toList with
     |nil=>exact Array.ext' (by simpa using hrelf')
     |cons x r=>rw[hrelf']at hrelu;exact hrelu.elim
    simp only[]
    rw[show Nat.ble 5000000 (5000000+f)=true from by rw[Nat.ble_eq];omega,cond_true,e0]
    simp
 have hrell:=qiO hsb hgl
 obtain⟨Hf,m1,m2,m3,m4,m5⟩:=qg.freezeAll (qt it.ps cl++qt li.ps l) hsb
 obtain⟨dc,h,Φc,hargc,hmc⟩:=qa2 hcfg hsb m1 (λid hid=>m3 id (List.mem_append_left _ hid)) hrelc h
 obtain⟨d,h,Φs,hargs,hmr⟩:=qa2 hcfg hsb m1 (λid hid=>m3 id (List.mem_append_right _ hid)) hrell h
 rw[qi]at h
 replace h:=Option.bind_eq_some_iff.1 h
 obtain⟨xs0,hx0,h⟩:=h
 rw[qi]at h
 replace h:=Option.bind_eq_some_iff.1 h
 obtain⟨xs,hx,h⟩:=h
 rw[qi]at h
 replace h:=Option.bind_eq_some_iff.1 h
 obtain⟨o,ho,h⟩:=h
 have h:=qlm h
 obtain⟨hfps,hmo⟩:=qbg hmr
 obtain⟨hfpc,hmoc⟩:=qbg hmc
 have hndc:(qd Φc).Nodup:=by
  rw[hfpc]
  refine qa8 hmsc (λid hid=>?_) (λi hi j hj hij b hb=>?_)
  ·obtain⟨o,ho⟩:=hmoc id hid
   exact(hsb.os id o ho).1.2.1
  ·obtain⟨o,ho⟩:=hmoc i hi
   obtain⟨o',ho'⟩:=hmoc j hj
   exact hsb.disj i j o o' hij ho ho' b hb
 have hG:∀b∈qd Φc,Hf b=none/\b<w.heap.size/\b∉qd Φs:=by
  intro b hb
  rw[hfpc]at hb
  obtain⟨id,hid,hb⟩:=List.mem_flatMap.1 hb
  obtain⟨o,ho⟩:=hmoc id hid
  obtain⟨q1,q2,q3⟩:=(hsb.os id o ho).2 b hb
  refine⟨?_,q3,λhb2=>?_⟩
  ·cases hq:Hf b with
   |none=>rfl
   |some c=>
    rcases m2 b c hq with h1|⟨id2,hid2,o2,ho2,hb2⟩
    ·rw[q1]at h1;cases h1
    ·exact absurd hb2 (hsb.disj id id2 o o2 (by rintro rfl;exact hmtc id hid hid2) ho ho2 b hb)
  ·rw[hfps]at hb2
   obtain⟨id2,hid2,hb2⟩:=List.mem_flatMap.1 hb2
   obtain⟨o2,ho2⟩:=hmo id2 hid2
   exact hsb.disj id id2 o o2 (hmx id hid id2 hid2) ho ho2 b hb hb2
 obtain⟨hsd,hod⟩:=qcd hird hmc m4
 have hG2:∀b∈qd Φc,(C.M0 b\/C.w0.heap.size<=b)/\∀j o,(qbN (s.freezeAll (qt it.ps cl++qt li.ps l)) it.ps cl).obj j=some o->b∉(Φ j).fp:=by
  intro b hb
  rw[hfpc]at hb
  obtain⟨id,hid,hb⟩:=List.mem_flatMap.1 hb
  obtain⟨o,ho⟩:=hmoc id hid
  refine⟨((hsb.os id o ho).2 b hb).2.1,λj o2 hj=>?_⟩
  rw[hod]at hj
  split at hj
  ·cases hj
  ·rename_i hjn
   rw[m5]at hj
   split at hj
   ·cases hj
   ·exact hsb.disj id j o o2 (λe=>hjn (e▸hid)) ho hj b hb
 obtain⟨cs,hcs,hseq⟩:=hiseq dc xs0 hx0 w Hf cv Φc m4.hok hargc hndc (λb hb=>⟨(hG b hb).1,(hG b hb).2.1⟩)
 obtain⟨e,hxe⟩:=qf hx
 obtain⟨hfz,hcs,hseq⟩:=qjp it.a li.a e xs0 xs cs hxe hifz hcs hseq
 have hnd:(qd Φs).Nodup:=by
  rw[hfps]
  refine qa8 hms (λid hid=>?_) (λi hi j hj hij b hb=>?_)
  ·obtain⟨o,ho⟩:=hmo id hid
   exact(hsb.os id o ho).1.2.1
  ·obtain⟨o,ho⟩:=hmo i hi
   obtain⟨o',ho'⟩:=hmo j hj
   exact hsb.disj i j o o' hij ho ho' b hb
 have hnone:∀b∈qd Φs,Hf b=none/\b<w.heap.size:=by
  intro b hb
  rw[hfps]at hb
  obtain⟨id,hid,hb⟩:=List.mem_flatMap.1 hb
  obtain⟨o,ho⟩:=hmo id hid
  obtain⟨q1,q2,q3⟩:=(hsb.os id o ho).2 b hb
  refine⟨?_,q3⟩
  cases hq:Hf b with
  |none=>rfl
  |some c=>
   rcases m2 b c hq with h1|⟨id2,hid2,o2,ho2,hb2⟩
   ·rw[q1]at h1;cases h1
   ·exact absurd hb2 (hsb.disj id id2 o o2 (by rintro rfl;exact hmt id hid hid2) ho ho2 b hb)
 have hds:a.defers=C.ds:=hsb.defers
 rw[hitF]at hcal hseq
 refine qnQ hmo2 hnT hcfg heq hla hlb hra hrb hp hnt m4.hok hargs hnd hnone hG (hsb.size.trans hC.nt) rfl (gf:=f) (lb:=us) har hv hcal hfz hcs hseq ho ?_
 rintro D W hD ⟨H',Φs',k1,k2,k3,k4,k5,k6,k7⟩ hh
 have hsim:=qhv (dst:=none) hcfg hC hsd rfl k2 k3 (p:=⟨li.ps,[],λ_=>none⟩) (show(0:Nat)<1000 by decide) hG2 (us:=[]) (Ψs:=[]) (y:=((),o.2)) k1 k4
  (qaz (λid hid=>by rw[hod,if_neg (λh=>hmx id h id hid rfl),m5,if_neg (hmt id hid)]) hmr) hargs k5 ⟨rfl,rfl⟩ (by simpa using k6) (by simpa using k7) hms
 obtain⟨H2,Φ2,hsim⟩:=hsim
 have hact:({({a with defers:={target:=.collected D,args:=#[]}::a.defers}:Act)with defers:=C.ds}:Act)=a:=by
  rw[<-hds]
 have hends:qhb P C k r o.1 {a with defers:={target:=.collected D,args:=#[]}::a.defers} W:=by
  refine⟨_,[{target:=.collected D,args:=#[]}],by rw[hds];rfl,⟨by simp,?_⟩,?_,h⟩
  ·intro x hx
   obtain rfl:=List.mem_singleton.1 hx
   exact⟨D,rfl,Nat.le_trans hsb.mod.size hD,hh⟩
  ·rw[hact]
   exact⟨H2,Φ2,hsim.withM none,trivial⟩
 obtain⟨x,md⟩:=o
 cases x with
 |norm=>exact hends
 |exit i=>exact hends
 |ret=>exact hends
theorem qeC{c:Code}{Q Q':Exit->Act->World->Prop}(hq:∀e a w,Q e a w->Q' e a w):∀(m:Nat) {a:Act} {w:World},Code.rounds P c Q m a w->Code.rounds P c Q' m a w
 |0,_,_,h=>h
 |m+1,_,_,h=>wp_mono h (λe a w hp=>by
  cases e with
  |normal=>exact qeC hq m hp
  |_=>exact hq _ _ _ hp)
theorem qdr(hm:P.follows .mixedOrders=true)(hcfg:qu P cfg)(hit:∀f it,lk cfg.iters f=some it->qg9 P f it):∀(c:Code) {C:Ctx} (_:qz C cfg) {R:Type} {r:R} {n:Nat} {s:St} {k:X->St->Option R} {a:Act} {w:World},qax cfg c->qbS cfg c->qdw cfg c=true->jX P C s a w->run cfg n c s k=some r->c.wp P (qgy P C k r) a w
 |.skip,C,hC,R,r,n,s,k,a,w,_,_,_,hs,h=>wp_skip (.one hs h)
 |.ret,C,hC,R,r,n,s,k,a,w,_,_,_,hs,h=>wp_ret (.one hs h)
 |.exit i,C,hC,R,r,n,s,k,a,w,_,_,_,hs,h=>wp_exit (.one hs h)
 |.region id ops draw,C,hC,R,r,n,s,k,a,w,hl,_,hd,hs,h=>wp_mono (qdc hm hcfg hC (.region id ops draw) hl (by cases draw<;>first|rfl|exact hd) hs h) (λ_ _ _ hp=>.of_post hp)
 |.seq x y,C,hC,R,r,n,s,k,a,w,hl,hr,hd,hs,h=>by
  simp only[qdw,Bool.and_eq_true]at hd
  refine wp_seq (wp_mono (qdr hm hcfg hit x hC hl.1 hr.1 hd.1 hs h) ?_)
  intro e a w hp
  cases e with
  |normal=>
   obtain⟨s',ds,hd',hD,hs',h'⟩:=hp
   obtain⟨H,Φ,hsb,hs2⟩:=hs'.rebaseD ds hd'
   exact wp_mono (qdr hm hcfg hit y (qmr hC) hl.2 hr.2 hd.2 hs2 h') (λ_ _ _ hp=>hp.unbase hsb hD)
  |exit i=>exact hp
  |ret=>exact hp
  |_=>exact hp.elim
 |.cond c x y,C,hC,R,r,n,s,k,a,w,hl,hr,hd,hs,h=>by
  simp only[qdw,Bool.and_eq_true]at hd
  simp only[run]at h
  split at h
  ·rename_i b hb
   obtain⟨H,Φ,hsb,hM⟩:=hs
   have hv:=(qk hsb qv hb).bool
   refine wp_cond hv ?_
   cases b with
   |true=>exact qdr hm hcfg hit x hC hl.1 hr.1 hd.1 ⟨H,Φ,hsb,hM⟩ h
   |false=>exact qdr hm hcfg hit y hC hl.2 hr.2 hd.2 ⟨H,Φ,hsb,hM⟩ h
  ·cases h
 |.block i c,C,hC,R,r,n,s,k,a,w,hl,hr,hd,hs,h=>by
  refine wp_block (wp_mono (qdr hm hcfg hit c hC hl hr hd hs h) ?_)
  intro e a w hp
  cases e with
  |normal=>exact hp
  |exit j=>
   obtain⟨s',ds,q1,q2,q3,h'⟩:=hp
   simp only[qkS]at h'
   unfold Exit.inBlock
   cases hb:Nat.beq j i with
   |true=>
    rw[hb]at h'
    obtain rfl:=Nat.eq_of_beq_eq_true hb
    simp only[if_true]
    exact⟨s',ds,q1,q2,q3,h'⟩
   |false=>
    rw[hb]at h'
    simp only[Nat.ne_of_beq_eq_false hb,if_false]
    exact⟨s',ds,q1,q2,q3,h'⟩
  |ret=>exact hp
  |_=>exact hp.elim
 |.loop c,C,hC,R,r,n,s,k,a,w,hl,hr,hd,hs,h=>by
  simp only[run]at h
  split at h
  ·cases h
  ·rename_i key hkey
   split at h
   ·rename_i hn
    split at h
    ·cases h
    ·rename_i li hli
     split at h
     ·cases h
     ·rename_i d hd'
      have ho:=qhU h
      obtain⟨heq0,heq⟩:=hl.2.2 key li hkey hn hli
      have hs':=qba hd' hs
      have rounds:∀m {C:Ctx} (_:qz C cfg) d a w,li.w m d (λo=>outK k li.outs o=some r)=some ()->jX P C (li.ins.fill d) a w->Code.rounds P c (qgy P C k r) m a w:=by
       intro m
       induction m with
       |zero=>intro C _ d a w hg;rw[heq0]at hg;cases hg
       |succ m ih=>
        intro C hC d a w hg hsd
        rw[heq]at hg
        refine wp_mono (qdr hm hcfg hit c hC hl.1 hr hd hsd hg) ?_
        intro e a w hp
        cases e with
        |normal=>
         obtain⟨s2,ds,q1,q2,hs2,h2⟩:=hp
         simp only[qcL]at h2
         split at h2
         ·rename_i d2 hd2
          obtain⟨H,Φ,hsb,hs3⟩:=hs2.rebaseD ds q1
          exact qeC (λ_ _ _ hp=>hp.unbase hsb q2) m (ih (qmr hC) d2 a w h2 (qba hd2 hs3))
         ·cases h2
        |exit j=>
         obtain⟨s2,ds,q1,q2,hs2,h2⟩:=hp
         simp only[qcL]at h2
         split at h2
         case h_2=>cases h2
         rename_i o2 ho2
         obtain⟨s3,hs3,h3⟩:=qbf hs2 (k:=k) ho2
         exact⟨s3,ds,q1,q2,hs3,by rw[<-h3];exact qct h2⟩
        |ret=>
         obtain⟨s2,ds,q1,q2,hs2,h2⟩:=hp
         simp only[qcL]at h2
         split at h2
         case h_2=>cases h2
         rename_i o2 ho2
         obtain⟨s3,hs3,h3⟩:=qbf hs2 (k:=k) ho2
         exact⟨s3,ds,q1,q2,hs3,by rw[<-h3];exact qct h2⟩
        |_=>exact hp.elim
      exact wp_loop_rounds n (rounds n hC d a w ho hs')
   ·rename_i li hli
    split at h
    ·cases h
    ·rename_i d hd'
     rw[qi]at h
     replace h:=Option.bind_eq_some_iff.1 h
     obtain⟨o,ho,h⟩:=h
     obtain⟨heq0,heq⟩:=hl.2.1 key li hkey hli
     have hs':=qba hd' hs
     have rounds:∀m {C:Ctx} (_:qz C cfg) d a w,li.g m d=some o->jX P C (li.ins.fill d) a w->Code.rounds P c (qgy P C k r) m a w:=by
      intro m
      induction m with
      |zero=>intro C _ d a w hg;rw[heq0]at hg;cases hg
      |succ m ih=>
       intro C hC d a w hg hsd
       rw[heq]at hg
       refine wp_mono (qdr hm hcfg hit c hC hl.1 hr hd hsd hg) ?_
       intro e a w hp
       cases e with
       |normal=>
        obtain⟨s2,ds,q1,q2,hs2,h2⟩:=hp
        simp only[jH]at h2
        split at h2
        ·rename_i d2 hd2
         obtain⟨H,Φ,hsb,hs3⟩:=hs2.rebaseD ds q1
         exact qeC (λ_ _ _ hp=>hp.unbase hsb q2) m (ih (qmr hC) d2 a w h2 (qba hd2 hs3))
        ·cases h2
       |exit j=>
        obtain⟨s2,ds,q1,q2,hs2,h2⟩:=hp
        obtain⟨s3,hs3,h3⟩:=qbf hs2 (k:=k) h2
        exact⟨s3,ds,q1,q2,hs3,by rw[<-h3];exact h⟩
       |ret=>
        obtain⟨s2,ds,q1,q2,hs2,h2⟩:=hp
        obtain⟨s3,hs3,h3⟩:=qbf hs2 (k:=k) h2
        exact⟨s3,ds,q1,q2,hs3,by rw[<-h3];exact h⟩
       |_=>exact hp.elim
     exact wp_loop_rounds n (rounds n hC d a w ho hs')
 |.rangeFunc g ps x y,C,hC,R,r,n,s,k,a,w,_,hr,hd,hs,h=>by
  simp only[qdw,Bool.and_eq_true]at hd
  exact range_ok hm hcfg hit hr hd.1 hd.2 hC hs h
 |.scope _,_,_,_,_,_,_,_,_,_,_,_,_,_,h=>by cases h
 |.label _,_,_,_,_,_,_,_,_,_,_,_,_,_,h=>by cases h
 |.goto _,_,_,_,_,_,_,_,_,_,_,_,_,_,h=>by cases h
 |.refuse _,_,_,_,_,_,_,_,_,_,_,_,_,_,h=>by cases h
def qc8(W W':World):Prop:=∀(b:Nat) (o:Go.Obj),qjN o=true->W.heap[b]? = some o->W'.heap[b]? = some o
theorem qc8.cell(h:qc8 W W'){ad:Addr}{v:Value}(hv:W.cell? ad=some v):W'.cell? ad=some v:=by
 unfold World.cell? at hv ⊢
 cases e:W.heap[ad.block]? with
 |none=>rw[e]at hv;simp at hv
 |some o=>
  rw[e]at hv
  cases o with
  |cells c t f=>rw[h _ _ rfl e];exact hv
  |_=>simp at hv
theorem qc8.locO(h:qc8 W W'){o:Obj}{φ:qB}{p:List qq}{b off:Nat}(hl:jS W o φ p b off):jS W' o φ p b off:=by
 obtain⟨row,τ,x⟩:=o
 cases row with
 |false=>exact jO.keep τ (λ_ _ _ _ he=>h.cell he) hl
 |true=>
  unfold jS at hl ⊢
  simp only at hl ⊢
  split at hl
  ·obtain⟨g,n,cap,e,hl⟩:=hl
   exact⟨g,n,cap,e,jO.keep _ (λ_ _ _ _ he=>h.cell he) hl⟩
  ·exact hl
theorem qg.sameC(hs:qg P C s a w H Φ)(hsame:qc8 w w')(hsz:w.heap.size<=w'.heap.size)(hmod:jM C.M0 C.w0 w'):qg P C s a w' H Φ:=by
 refine⟨hs.defers,hs.size,hs.le,?_,hs.hnew,hmod,?_,?_,hs.disj,hs.pins⟩
 ·intro b c hb
  have e:=hs.hok b c hb
  cases c with
  |cells c=>obtain⟨t,f,e⟩:=e;exact⟨t,f,hsame _ _ rfl e⟩
  |map es n=>exact hsame _ _ rfl e
 ·intro t av ht
  have h1:qh P C w' H Φ s.obj (av.killIf λ_=>false) (a.tmps.getD t undef):=qh.transfer (λ_=>false) (FH.le_refl H) (λid p v _ hh=>by
    obtain⟨o,y,b,off,h1,h2,h3,h4,h5⟩:=hh
    exact⟨o,y,b,off,h1,h2,h3,hsame.locO h4,h5⟩) (λid p v _ hh=>by
    obtain⟨o,y,h1,h2,h3⟩:=hh
    refine⟨o,y,h1,h2,?_⟩
    cases hb:o.row&&p.isEmpty with
    |true=>rw[hb]at h3;exact h3
    |false=>
     rw[hb]at h3
     obtain⟨b,off,blk,t,k1,k2,k3⟩:=h3
     exact⟨b,off,blk,t,hsame.locO k1,hsame _ _ rfl k2,k3⟩) (λid p t e l v _ hh=>by
    obtain⟨o,h1,h3,h4,fp,h0,h5,h6⟩:=hh
    refine⟨o,h1,h3,h4,fp,h0,qm.mono _ (FH.le_refl _) (λb hb=>?_) h5,λb hb=>⟨Nat.lt_of_lt_of_le (h6 b hb).1 hsz,?_⟩⟩
    ·obtain⟨o',e,e2⟩:=qm.dat _ h5 b hb
     rw[e,hsame _ _ e2 e]
    ·rcases(h6 b hb).2 with hf|q1
     ·exact .inl ⟨hf.fz,hf.obj,hf.may,Nat.lt_of_lt_of_le hf.lt hsz⟩
     ·refine .inr ?_
      unfold qb0 at q1 ⊢
      cases hr:o.row&&p.isEmpty with
      |true=>rw[hr]at q1;exact q1
      |false=>
       rw[hr]at q1
       obtain⟨y,bb,off,blk,t,f,z1,z2,z3,z4,z5⟩:=q1
       exact⟨y,bb,off,blk,t,f,z1,hsame.locO z2,hsame _ _ rfl z3,qm.mono _ (FH.le_refl _) (λk hk=>by
        obtain⟨o',e,e2⟩:=qm.dat _ z4 k hk
        rw[e,hsame _ _ e2 e]) z4,z5⟩) av _ (hs.ts t av ht)
  rwa[qh.id_kill _ (λ_=>rfl)]at h1
 ·intro id o ho
  have h:=hs.os id o ho
  exact⟨h.1.frame (FH.le_refl _) (λb hb=>by obtain⟨o',e,e2⟩:=h.1.dat b hb;rw[e,hsame _ _ e2 e]),λb hb=>⟨(h.2 b hb).1,(h.2 b hb).2.1,Nat.lt_of_lt_of_le (h.2 b hb).2.2 hsz⟩⟩
theorem qge{fn:Func}{n:Nat}{tmps:Array Value}{R:Ending->World->Prop}{B:Nat}:∀{ds:List Deferred} {w:World},DsOK B ds w->
  (∀w',qc8 w w'->w'.heap.size=w.heap.size->w'.os=w.os->w'.tape=w.tape->w'.output=w.output->(∀k,k<B->w'.heap[k]? = w.heap[k]?)->∃v,(results fn tmps).run P w' = .ok v w'/\R (.returned v) w')->LeavesInM Fence.wide n P fn tmps R ds .returning w
 |[],w,_,h=>h w (λ_ _ _ e=>e) rfl rfl rfl rfl (λ_ _=>rfl)
 |d::ds,w,hD,h=>by
  obtain⟨hnd,hD⟩:=hD
  obtain⟨D,e,hB,hh⟩:=hD d List.mem_cons_self
  have hlt:=(Array.getElem?_eq_some_iff.1 hh).1
  rw[List.nodup_cons]at hnd
  refine⟨by simp,.inl ⟨D,_,by rw[e],run_takeDeferred hh,qge ⟨hnd.2,λx hx=>?_⟩ (λw' q1 q2 q3 q4 q5 q6=>h w' (λb o' ho' e2=>q1 _ _ ho' ((World.putObj_heap_other (λhb=>by rw[hb,hh]at e2;cases e2;cases ho')).trans e2)) (q2.trans (by simp)) (q3.trans rfl) (q4.trans rfl) (q5.trans rfl) (λk hk=>(q6 k hk).trans (World.putObj_heap_other (by omega))))⟩⟩
  ·obtain⟨D',e',hB',hh'⟩:=hD x (List.mem_cons_of_mem _ hx)
   refine⟨D',e',hB',(World.putObj_heap_other ?_).trans hh'⟩
   rintro rfl
   exact hnd.1 (by rw[e,<-e'];exact hx)
theorem done_ok(hcfg:qu P cfg){fn:Func}{ps:List jT}{rs:List RTy}{y:RDens rs×MDens ps}{vs:List Value}{Φs:List qB}{d:PDens ps}(hargs:jP P w H ps d vs Φs):∀(s:St) (a':Act) (w':World),Sim P (qbG w H cfg.nt ps Φs) s a' w'->qfp cfg fn ps rs .ret s=some y->
   a'.defers=[]/\∃v,(results fn a'.tmps).run P w' = .ok v w'/\∃us H' Φs' Ψs,Ending.returned v = .returned (qap us)/\jM (· ∈qd Φs) w w'/\H.le H'/\HOk H' w'/\(∀b c,H' b=some c->H b=some c\/b∈qd Φs\/w.heap.size<=b)/\
    qal P w' H' rs y.1 us Ψs/\jK P w' H' ps y.2 vs Φs'/\(qd (Ψs++Φs')).Nodup/\∀b∈qd (Ψs++Φs'),H' b=none/\(b∈qd Φs\/w.heap.size<=b)/\b<w'.heap.size:=by
 obtain⟨_,_,_,h4,_⟩:=qaO (C:=qbG w H cfg.nt ps Φs) 0 hargs
 rintro s a' w' ⟨H2,Φ2,hs⟩ h
 simp only[qfp]at h
 split at h
 case h_2=>cases h
 rename_i md hmd
 obtain⟨T,hand,t1,t2,t3,t4⟩:=qd7 hcfg hs h
 obtain⟨Hf,m1,m2,m3,m4,m5⟩:=qg.freezeAll T hs
 obtain⟨d',us,Ψs,g1,g2,g3,g4,g5⟩:=t4 Hf m1 m3
 cases g1
 obtain⟨Φs',k1,k2,k3⟩:=qay hs m1 (i:=0) hargs (λx hx=>by
  obtain⟨id,φ⟩:=x
  have hpin:(qbG w H cfg.nt ps Φs).pin id=some φ:=qfn h4 hx
  exact hs.pins.1 id φ hpin) hmd
 have hids:=qaU (ps:=ps) (i:=0)
 have hfapp:qd (Ψs++Φs')=qd Ψs++qd Φs':=by simp[qd]
 have hobj:∀id,id∉T->∀o,s.obj id=some o->∀b∈(Φ2 id).fp,Hf b=none/\(b∈qd Φs\/w.heap.size<=b)/\b<w'.heap.size:=by
  intro id hid o ho b hb'
  obtain⟨q1,q2,q3⟩:=(hs.os id o ho).2 b hb'
  refine⟨?_,q2,q3⟩
  cases hq:Hf b with
  |none=>rfl
  |some c=>
   rcases m2 b c hq with h1|⟨j,hj,o',ho',hbj⟩
   ·rw[q1]at h1;cases h1
   ·exact absurd hbj (hs.disj id j o o' (by rintro rfl;exact hid hj) ho ho' b hb')
 refine⟨hs.defers,_,qeA g2,us,Hf,Φs',Ψs,rfl,hs.mod,FH.le_trans hs.le m1,m4.hok,m4.hnew,g3,k1,?_,?_⟩
 ·rw[hfapp,List.nodup_append]
  refine⟨g4,?_,?_⟩
  ·rw[k2]
   refine qa8 hids.2 (λid hid=>?_) (λi hi j hj hij b hb'=>?_)
   ·obtain⟨o,ho⟩:=k3 id hid
    exact(hs.os id o ho).1.2.1
   ·obtain⟨o,ho⟩:=k3 i hi
    obtain⟨o',ho'⟩:=k3 j hj
    exact hs.disj i j o o' hij ho ho' b hb'
  ·rintro b hb1 _ hb2 rfl
   obtain⟨i,hi,o,ho,hbi⟩:=g5 b hb1
   rw[k2]at hb2
   obtain⟨j,hj,hbj⟩:=List.mem_flatMap.1 hb2
   obtain⟨o',ho'⟩:=k3 j hj
   exact hs.disj i j o o' (by rintro rfl;exact(t3 i hi).1 hj) ho ho' b hbi hbj
 ·intro b hb'
  rw[hfapp]at hb'
  rcases List.mem_append.1 hb' with hb1|hb2
  ·obtain⟨i,hi,o,ho,hbi⟩:=g5 b hb1
   exact hobj i (t3 i hi).2 o ho b hbi
  ·rw[k2]at hb2
   obtain⟨j,hj,hbj⟩:=List.mem_flatMap.1 hb2
   obtain⟨o',ho'⟩:=k3 j hj
   exact hobj j (λhT=>t1 j hT hj) o' ho' b hbj
theorem qob(hm:P.follows .mixedOrders=true)(hcfg:qu P cfg)(hit:∀f it,lk cfg.iters f=some it->qg9 P f it){f:FuncId}{fn:Func}{c:Code}(hf:P.funcs[f]? = some fn)(hb:fn.body=some c)(hnt:fn.ntmps=cfg.nt)(hl:qax cfg c)(hr:qbS cfg c)(hd:qdw cfg c=true)
  {p:jE} (hps:p.ps.length<=cfg.nt) (hg:∀d y,p.g d=some y->∃n,jC cfg n fn c p.ps p.rs d=some y):qj8 P f p:=by
 intro d y hy w H vs Φs hok hargs hnd hfr
 obtain⟨n,hn⟩:=hg d y hy
 have hsim:=qd2 hok hargs hnd hfr hps
 have hC:=qe9 (cfg:=cfg) hargs
 refine(callsIn_wide (n:=0)).1 (callsIn_of_wp_marks hf hb trivial ((wpIn_wide (n:=0)).2 ?_))
 rw[hnt]
 refine wp_mono (qdr hm hcfg hit c hC hl hr hd ⟨H,_,hsim,trivial⟩ hn) ?_
 have fin:∀{x:X} {a':Act} {w':World},(match x with|.exit _=>False|_=>True)->qhb P (qbG w H cfg.nt p.ps Φs) (qfp cfg fn p.ps p.rs) y x a' w'->LeavesInM Fence.wide 0 P fn a'.tmps (λe w'=>∃us H' Φs' Ψs,e = .returned (qap us)/\jM (· ∈qd Φs) w w'/\H.le H'/\HOk H' w'/\(∀b c,H' b=some c->H b=some c\/b∈qd Φs\/w.heap.size<=b)/\
   qal P w' H' p.rs y.1 us Ψs/\jK P w' H' p.ps y.2 vs Φs'/\(qd (Ψs++Φs')).Nodup/\∀b∈qd (Ψs++Φs'),H' b=none/\(b∈qd Φs\/w.heap.size<=b)/\b<w'.heap.size) a'.defers .returning w':=by
  intro x a' w' hx ⟨s,ds,e1,hD,⟨H2,Φ2,hs,_⟩,hk⟩
  have hk:qfp cfg fn p.ps p.rs .ret s=some y:=by cases x<;>first|exact hk|exact hx.elim
  have e1:a'.defers=ds:=by rw[e1];exact List.append_nil ds
  rw[e1]
  refine qge hD (λw2 q1 q2 q3 q4 q5 q6=>?_)
  have hs2:=hs.sameC q1 (Nat.le_of_eq q2.symm) (hs.mod.trans_new (N:=λk=>w.heap.size<=k) ⟨q3,q4,q5,Nat.le_of_eq q2.symm,λk _ hk=>q6 k (Nat.lt_of_not_le hk)⟩ (λi hi=>.inr hi))
  obtain⟨_,v,h1,us,H',Φs',Ψs,h2,rest⟩:=done_ok hcfg hargs s _ w2 ⟨H2,Φ2,hs2⟩ hk
  exact⟨v,h1,us,H',Φs',Ψs,h2,rest⟩
 intro e a' w' hp
 cases e with
 |normal=>exact fin (x:=.norm) trivial hp
 |ret=>exact fin (x:=.ret) trivial hp
 |exit i=>obtain⟨s,ds,_,_,_,hk⟩:=hp;cases hk
 |_=>exact hp.elim
end
end Go.Vi
