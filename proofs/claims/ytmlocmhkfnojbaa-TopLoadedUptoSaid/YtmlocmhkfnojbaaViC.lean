/- The abstract interpreter Vi, part C: a verified interpreter over the model's code, whose run of a function gives the contract of the function. No condition beyond those typed in each theorem. -/
import Derived.Test.YtmlocmhkfnojbaaViY
import Derived.Maps.Range
import Derived.Maps.RangeWalk
import Derived.Carry
import Derived.KernelRfl
import Derived.Shelf.Slices.Reverse
import Derived.Test.YtmlocmhkfnojbaaRows
import Derived.Below
import Derived.ChangeSame
import Derived.OpenShut
import Derived.ProofKit
import Derived.WideKeyArgs
import Derived.JoinedCond
import Derived.IntWalk
namespace Go.Vi
def qD(cfg:jG):Code->Bool
 |.region id ops true=>(qdH id cfg.enum&&Region.noSelect ops)||drawR cfg ops
 |.seq a b=>qD cfg a&&qD cfg b
 |.cond _ a b=>qD cfg a&&qD cfg b
 |.block _ c=>qD cfg c
 |.loop c=>qD cfg c
 |.rangeFunc _ _ _ _=>false
 |_=>true
section
variable {P:Program} {C:Ctx} {cfg:jG} {R:Type} {r:R} {s:St} {a:Act} {w:World} {H:FH} {Φ:Nat->qB}
theorem getK_ok{sh:Option MSh}{d:KDen sh}{os:Nat->Option Obj}(h:getK s sh=some d)(hM:qcP P C s.mp os a w H Φ):qcP P C (fillK sh d) os a w H Φ:=by
 match sh,d,h with
 |none,_,_=>trivial
 |some ⟨kt,vt,tm,none⟩,d,h=>
  simp only[getK]at h
  split at h
  case h_2=>cases h
  rename_i m hm
  cases hq:Nat.beq m.kt kt&&Nat.beq m.vt vt&&tm.all (λt=>qdH t m.tm)with
  |false=>rw[hq]at h;cases h
  |true=>
  rw[hq]at h
  cases h
  rw[hm]at hM
  simp only[Bool.and_eq_true,List.all_eq_true]at hq
  obtain⟨⟨q1,q2⟩,q3⟩:=hq
  obtain rfl:=Nat.eq_of_beq_eq_true q1
  obtain rfl:=Nat.eq_of_beq_eq_true q2
  obtain⟨b,h1,h2,h3,h4,h5,_⟩:=hM
  exact⟨b,h1,h2,h3,h4,λt ht=>h5 t (qdZ.1 (q3 t ht)),λti lf e=>by cases e⟩
 |some ⟨kt,vt,tm,some ti⟩,d,h=>
  simp only[getK]at h
  split at h
  case h_2=>cases h
  rename_i m hm
  split at h
  case h_2=>cases h
  rename_i ti' lf hit
  cases hq:Nat.beq m.kt kt&&Nat.beq m.vt vt&&tm.all (λt=>qdH t m.tm)&&ti.all (λt=>qdH t ti')with
  |false=>rw[hq]at h;cases h
  |true=>
  rw[hq]at h
  cases h
  rw[hm]at hM
  simp only[Bool.and_eq_true,List.all_eq_true]at hq
  obtain⟨⟨⟨q1,q2⟩,q3⟩,q4⟩:=hq
  obtain rfl:=Nat.eq_of_beq_eq_true q1
  obtain rfl:=Nat.eq_of_beq_eq_true q2
  obtain⟨b,h1,h2,h3,h4,h5,h6⟩:=hM
  refine⟨b,h1,h2,h3,h4,λt ht=>h5 t (qdZ.1 (q3 t ht)),λti2 lf2 e=>?_⟩
  cases e
  obtain⟨i,k1,k2,k3,k4⟩:=h6 _ _ hit
  exact⟨i,k1,k2,λt ht=>k3 t (qdZ.1 (q4 t ht)),λn v e=>by cases e⟩
theorem qcP.weaken{mp:Option Ms}{os os':Nat->Option Obj}(ho:∀id o,os' id=some o->os id=some o)(h:qcP P C mp os a w H Φ):qcP P C mp os' a w H Φ:=by
 have hf:∀b,qaB C w H Φ os b->qaB C w H Φ os' b:=λb hb=>⟨hb.fz,λid o h=>hb.obj id o (ho id o h),hb.may,hb.lt⟩
 cases mp with
 |none=>trivial
 |some m=>
  obtain⟨b,h1,h2,h3,h4,h5,h6⟩:=h
  refine⟨b,h1,h2,hf b h3,h4,h5,λti lf e=>?_⟩
  obtain⟨i,k1,k2⟩:=h6 ti lf e
  exact⟨i,hf i k1,k2⟩
theorem qba{sk:qdp}{d:sk.Den}(h:sk.get s=some d)(hs:jX P C s a w):jX P C (sk.fill d) a w:=by
 obtain⟨H,Φ,hs,hM⟩:=hs
 obtain⟨hsub,h3⟩:=qlc h
 exact⟨H,Φ,qld h hs,(getK_ok h3 hM).weaken hsub⟩
theorem X.same_eq:∀{x y:X},x.same y=true->x=y
 |.norm,.norm,_=>rfl
 |.ret,.ret,_=>rfl
 |.exit i,.exit j,h=>by rw[Nat.eq_of_beq_eq_true h]
 |.norm,.ret,h=>by cases h
 |.norm,.exit _,h=>by cases h
 |.ret,.norm,h=>by cases h
 |.ret,.exit _,h=>by cases h
 |.exit _,.norm,h=>by cases h
 |.exit _,.ret,h=>by cases h
theorem qbf{e:X}(hs:jX P C s a w){k:X->St->Option R}:∀{outs:List (X×qdp)} {o:Outs outs},qjF e s outs=some o->∃s',jX P C s' a w/\outK k outs o=k e s'
 |[],_,h=>by cases h
 |[x],o,h=>by
  simp only[qjF]at h
  cases hx:x.1.same e with
  |false=>rw[hx]at h;cases h
  |true=>
   rw[hx,cond_true]at h
   exact⟨_,qba h hs,by rw[<-X.same_eq hx];rfl⟩
 |x::y::l,o,h=>by
  unfold qjF at h
  cases hx:x.1.same e with
  |false=>
   rw[hx,cond_false]at h
   split at h
   ·rename_i d hd
    cases h
    obtain⟨s',h1,h2⟩:=qbf (outs:=y::l) hs hd
    exact⟨s',h1,h2⟩
   ·cases h
  |true=>
   rw[hx,cond_true]at h
   split at h
   ·rename_i d hd
    cases h
    exact⟨_,qba hd hs,by rw[<-X.same_eq hx];rfl⟩
   ·cases h
def Post(P:Program)(C:Ctx)(k:X->St->Option R)(r:R):Exit->Act->World->Prop
 |.normal,a,w=>∃s,jX P C s a w/\k .norm s=some r
 |.exit i,a,w=>∃s,jX P C s a w/\k (.exit i) s=some r
 |.ret,a,w=>∃s,jX P C s a w/\k .ret s=some r
 |_,_,_=>False
theorem qdc(hm:P.follows .mixedOrders=true)(hcfg:qu P cfg)(hC:qz C cfg):∀(c:Code) {R:Type} {r:R} {n:Nat} {s:St} {k:X->St->Option R} {a:Act} {w:World},qax cfg c->qD cfg c=true->jX P C s a w->run cfg n c s k=some r->c.wp P (Post P C k r) a w
 |.skip,R,r,n,s,k,a,w,_,_,hs,h=>wp_skip ⟨s,hs,h⟩
 |.ret,R,r,n,s,k,a,w,_,_,hs,h=>wp_ret ⟨s,hs,h⟩
 |.exit i,R,r,n,s,k,a,w,_,_,hs,h=>wp_exit ⟨s,hs,h⟩
 |.region id ops draw,R,r,n,s,k,a,w,_,hd,hs,h=>by
  simp only[run]at h
  cases hq:draw&&s.mp.isSome with
  |true=>rw[hq]at h;cases h
  |false=>
   rw[hq,cond_false]at h
   have hmp:draw=true->s.mp=none:=by
    rintro rfl
    cases hmp:s.mp with
    |none=>rfl
    |some m=>rw[hmp]at hq;cases hq
   cases he:draw&&qdH id cfg.enum&&Region.noSelect ops with
   |true=>
    rw[he,cond_true]at h
    rw[Bool.and_eq_true,Bool.and_eq_true]at he
    obtain⟨⟨rfl,_⟩,hns⟩:=he
    split at h
    ·rename_i sk _
     rw[qi]at h
     replace h:=Option.bind_eq_some_iff.1 h
     obtain⟨d,h,h'⟩:=h
     exact wp_region_any hm (qkU hcfg hC hns (λs a w hs h=>⟨sk.fill d,qba h hs,h'⟩) (λc a w h=>h) _ _ _ (((qaV (cfg:=cfg) ops.toList (hs.sim.grow (qbu w))).1).simM ((qaV (cfg:=cfg) ops.toList (hs.sim.grow (qbu w))).2.trans (hmp rfl))) h)
    ·exact wp_region_any hm (qkU hcfg hC hns (λs a w hs h=>⟨s,hs,h⟩) (λc a w h=>h) _ _ _ (((qaV (cfg:=cfg) ops.toList (hs.sim.grow (qbu w))).1).simM ((qaV (cfg:=cfg) ops.toList (hs.sim.grow (qbu w))).2.trans (hmp rfl))) h)
   |false=>
    rw[he,cond_false]at h
    refine qnR hm hcfg hC ?_ (λs a w hs h=>⟨s,hs,h⟩) hs h
    rintro rfl
    rw[Bool.true_and]at he
    simp only[qD,he,Bool.false_or]at hd
    exact⟨hd,hmp rfl⟩
 |.seq x y,R,r,n,s,k,a,w,hl,hd,hs,h=>by
  simp only[qD,Bool.and_eq_true]at hd
  refine wp_seq (wp_mono (qdc hm hcfg hC x hl.1 hd.1 hs h) ?_)
  intro e a w hp
  cases e with
  |normal=>
   obtain⟨s',hs',h'⟩:=hp
   exact qdc hm hcfg hC y hl.2 hd.2 hs' h'
  |exit i=>obtain⟨s',hs',h'⟩:=hp;exact⟨s',hs',h'⟩
  |ret=>obtain⟨s',hs',h'⟩:=hp;exact⟨s',hs',h'⟩
  |_=>exact hp.elim
 |.cond c x y,R,r,n,s,k,a,w,hl,hd,hs,h=>by
  simp only[qD,Bool.and_eq_true]at hd
  simp only[run]at h
  split at h
  ·rename_i b hb
   obtain⟨H,Φ,hsb,hM⟩:=hs
   have hv:=(qk hsb qv hb).bool
   refine wp_cond hv ?_
   cases b with
   |true=>exact qdc hm hcfg hC x hl.1 hd.1 ⟨H,Φ,hsb,hM⟩ h
   |false=>exact qdc hm hcfg hC y hl.2 hd.2 ⟨H,Φ,hsb,hM⟩ h
  ·cases h
 |.block i c,R,r,n,s,k,a,w,hl,hd,hs,h=>by
  refine wp_block (wp_mono (qdc hm hcfg hC c hl hd hs h) ?_)
  intro e a w hp
  cases e with
  |normal=>obtain⟨s',hs',h'⟩:=hp;exact⟨s',hs',h'⟩
  |exit j=>
   obtain⟨s',hs',h'⟩:=hp
   simp only[qkS]at h'
   unfold Exit.inBlock
   cases hb:Nat.beq j i with
   |true=>
    rw[hb]at h'
    obtain rfl:=Nat.eq_of_beq_eq_true hb
    simp only[if_true]
    exact⟨s',hs',h'⟩
   |false=>
    rw[hb]at h'
    simp only[Nat.ne_of_beq_eq_false hb,if_false]
    exact⟨s',hs',h'⟩
  |ret=>obtain⟨s',hs',h'⟩:=hp;exact⟨s',hs',h'⟩
  |_=>exact hp.elim
 |.loop c,R,r,n,s,k,a,w,hl,hd,hs,h=>by
  simp only[run]at h
  split at h
  ·cases h
  ·rename_i key hkey
   split at h
   ·rename_i hn
    split at h
    ·cases h
    ·rename_i li hli
     split at h
     ·cases h
     ·rename_i d hd'
      have ho:=qhU h
      obtain⟨heq0,heq⟩:=hl.2.2 key li hkey hn hli
      have hs':=qba hd' hs
      have rounds:∀m d a w,li.w m d (λo=>outK k li.outs o=some r)=some ()->jX P C (li.ins.fill d) a w->Code.rounds P c (Post P C k r) m a w:=by
       intro m
       induction m with
       |zero=>intro d a w hg;rw[heq0]at hg;cases hg
       |succ m ih=>
        intro d a w hg hsd
        rw[heq]at hg
        refine wp_mono (qdc hm hcfg hC c hl.1 hd hsd hg) ?_
        intro e a w hp
        cases e with
        |normal=>
         obtain⟨s2,hs2,h2⟩:=hp
         simp only[qcL]at h2
         split at h2
         ·rename_i d2 hd2
          exact ih d2 a w h2 (qba hd2 hs2)
         ·cases h2
        |exit j=>
         obtain⟨s2,hs2,h2⟩:=hp
         simp only[qcL]at h2
         split at h2
         case h_2=>cases h2
         rename_i o2 ho2
         obtain⟨s3,hs3,h3⟩:=qbf hs2 (k:=k) ho2
         exact⟨s3,hs3,by rw[<-h3];exact qct h2⟩
        |ret=>
         obtain⟨s2,hs2,h2⟩:=hp
         simp only[qcL]at h2
         split at h2
         case h_2=>cases h2
         rename_i o2 ho2
         obtain⟨s3,hs3,h3⟩:=qbf hs2 (k:=k) ho2
         exact⟨s3,hs3,by rw[<-h3];exact qct h2⟩
        |_=>exact hp.elim
      exact wp_loop_rounds n (rounds n d a w ho hs')
   ·rename_i li hli
    split at h
    ·cases h
    ·rename_i d hd'
     rw[qi]at h
     replace h:=Option.bind_eq_some_iff.1 h
     obtain⟨o,ho,h⟩:=h
     obtain⟨heq0,heq⟩:=hl.2.1 key li hkey hli
     have hs':=qba hd' hs
     have rounds:∀m d a w,li.g m d=some o->jX P C (li.ins.fill d) a w->Code.rounds P c (Post P C k r) m a w:=by
      intro m
      induction m with
      |zero=>intro d a w hg;rw[heq0]at hg;cases hg
      |succ m ih=>
       intro d a w hg hsd
       rw[heq]at hg
       refine wp_mono (qdc hm hcfg hC c hl.1 hd hsd hg) ?_
       intro e a w hp
       cases e with
       |normal=>
        obtain⟨s2,hs2,h2⟩:=hp
        simp only[jH]at h2
        split at h2
        ·rename_i d2 hd2
         exact ih d2 a w h2 (qba hd2 hs2)
        ·cases h2
       |exit j=>
        obtain⟨s2,hs2,h2⟩:=hp
        obtain⟨s3,hs3,h3⟩:=qbf hs2 (k:=k) h2
        exact⟨s3,hs3,by rw[<-h3];exact h⟩
       |ret=>
        obtain⟨s2,hs2,h2⟩:=hp
        obtain⟨s3,hs3,h3⟩:=qbf hs2 (k:=k) h2
        exact⟨s3,hs3,by rw[<-h3];exact h⟩
       |_=>exact hp.elim
     exact wp_loop_rounds n (rounds n d a w ho hs')
 |.rangeFunc _ _ _ _,_,_,_,_,_,_,_,_,hd,_,_=>by cases hd
 |.scope _,_,_,_,_,_,_,_,_,_,_,h=>by cases h
 |.label _,_,_,_,_,_,_,_,_,_,_,h=>by cases h
 |.goto _,_,_,_,_,_,_,_,_,_,_,h=>by cases h
 |.refuse _,_,_,_,_,_,_,_,_,_,_,h=>by cases h
end
end Go.Vi
namespace Go.Vi
section
variable {P:Program} {C:Ctx} {cfg:jG} {R:Type} {r:R} {s:St} {a:Act} {w:World} {H:FH} {Φ:Nat->qB}
def nilI(id:Nat):qB:=if 4000000<=id/\id<7000000 then⟨0,.slice (some ⟨0,0,none⟩) 0 0,[]⟩else if 7000000<=id/\id<10000000 then⟨0,.slice none 0 0,[]⟩else qw
theorem nilI_cls(id:Nat):cls id (nilI id).hdr:=by
 unfold nilI
 by_cases h1:4000000<=id/\id<7000000
 ·rw[if_pos h1]
  exact⟨λ_ _=>⟨_,_,_,rfl⟩,λ_ _=>by omega⟩
 ·rw[if_neg h1]
  by_cases h2:7000000<=id/\id<10000000
  ·rw[if_pos h2]
   exact⟨λ_ _=>by omega,λ_ _=>rfl⟩
  ·rw[if_neg h2]
   exact⟨λ_ _=>by omega,λ_ _=>by omega⟩
def j9:List jT->List qB->Nat->List (Nat×qB)
 |.v _::ps,_::Φs,i=>j9 ps Φs (i+1)
 |.r _::ps,_::Φs,i=>j9 ps Φs (i+1)
 |.c _::ps,_::Φs,i=>j9 ps Φs (i+1)
 |.m _::ps,φ::Φs,i=>(pid i,φ)::j9 ps Φs (i+1)
 |.mr _ _::ps,φ::Φs,i=>(pid i,φ)::j9 ps Φs (i+1)
 |.t _ _::ps,φ::Φs,i=>(pid i,φ)::j9 ps Φs (i+1)
 |.gm _::ps,φ::Φs,i=>(pid i,φ)::j9 ps Φs (i+1)
 |.cm _ _::ps,φ::Φs,i=>(pid i,φ)::j9 ps Φs (i+1)
 |_,_,_=>[]
theorem qfn{α:Type}{n:Nat}{x:α}:∀{l:List (Nat×α)},(l.map (·.1)).Nodup->(n,x)∈l->lk l n=some x
 |[],_,h=>by cases h
 |(m,y)::l,hnd,h=>by
  simp only[List.map_cons,List.nodup_cons]at hnd
  rw[jQ]
  rcases List.mem_cons.1 h with e|h
  ·cases e;simp[Nat.beq_refl]
  ·have:Nat.beq m n=false:=by
    cases hb:Nat.beq m n with
    |false=>rfl
    |true=>obtain rfl:=Nat.eq_of_beq_eq_true hb;exact absurd (List.mem_map.2 ⟨_,h,rfl⟩) hnd.1
   rw[this]
   exact qfn hnd.2 h
theorem qan{i j:Nat}(h:i<j):pid i<pid j:=by unfold pid;omega
theorem qaO:∀{ps:List jT} {d:PDens ps} {vs:List Value} {Φs:List qB} (i:Nat),jP P w H ps d vs Φs->
  vs.length=ps.length/\qd Φs=(j9 ps Φs i).flatMap (·.2.fp)/\(∀x∈j9 ps Φs i,pid i<=x.1)/\((j9 ps Φs i).map (·.1)).Nodup/\((jF ps i d).map (·.1)).Nodup/\(∀x∈jF ps i d,pid i<=x.1)/\
   (∀id x,(id,x)∈jF ps i d->∃o φ,x=some o/\(id,φ)∈j9 ps Φs i/\qK P w H o φ)/\
   ∀(Φ:Nat->qB) (os:Nat->Option Obj),(∀x∈j9 ps Φs i,Φ x.1=x.2)->(∀id o,(id,some o)∈jF ps i d->os id=some o)->∀t av,lk (jW ps i d) t=some av->∃j v,t=i+j/\vs[j]? = some v/\qh P C w H Φ os av v
 |[],d,vs,Φs,i,h=>by
  obtain⟨rfl,rfl⟩:=h
  exact⟨rfl,rfl,by simp[j9],by simp[j9],by simp[jF],by simp[jF],by simp[jF],λ_ _ _ _ t av ht=>by cases ht⟩
 |.v τ::ps,d,vs,Φs,i,h=>by
  obtain⟨v,vs',φ,Φs',rfl,rfl,hfz,hφ,hv,h⟩:=h
  obtain⟨h1,h2,h3,h4,h5,h6,h7,h8⟩:=qaO (i+1) h
  refine⟨by simp[h1],by simpa[qd,hφ,j9]using h2,λx hx=>Nat.le_trans (Nat.le_of_lt (qan (Nat.lt_succ_self i))) (h3 x hx),h4,h5,λx hx=>Nat.le_trans (Nat.le_of_lt (qan (Nat.lt_succ_self i))) (h6 x hx),h7,?_⟩
  intro Φ os hΦ hos t av ht
  rw[jW,jQ]at ht
  cases hb:Nat.beq i t with
  |true=>
   rw[hb]at ht
   cases ht
   obtain rfl:=Nat.eq_of_beq_eq_true hb
   exact⟨0,v,rfl,rfl,hfz,hv⟩
  |false=>
   rw[hb]at ht
   obtain⟨j,u,e,hu,hr⟩:=h8 Φ os hΦ hos t av ht
   exact⟨j+1,u,by omega,by simpa using hu,hr⟩
 |.r τ::ps,d,vs,Φs,i,h=>by
  obtain⟨v,vs',φ,Φs',rfl,rfl,hfz,hφ,hv,h⟩:=h
  obtain⟨h1,h2,h3,h4,h5,h6,h7,h8⟩:=qaO (i+1) h
  refine⟨by simp[h1],by simpa[qd,hφ,j9]using h2,λx hx=>Nat.le_trans (Nat.le_of_lt (qan (Nat.lt_succ_self i))) (h3 x hx),h4,h5,λx hx=>Nat.le_trans (Nat.le_of_lt (qan (Nat.lt_succ_self i))) (h6 x hx),h7,?_⟩
  intro Φ os hΦ hos t av ht
  rw[jW,jQ]at ht
  cases hb:Nat.beq i t with
  |true=>
   rw[hb]at ht
   cases ht
   obtain rfl:=Nat.eq_of_beq_eq_true hb
   exact⟨0,v,rfl,rfl,hfz,hv⟩
  |false=>
   rw[hb]at ht
   obtain⟨j,u,e,hu,hr⟩:=h8 Φ os hΦ hos t av ht
   exact⟨j+1,u,by omega,by simpa using hu,hr⟩
 |.c f::ps,d,vs,Φs,i,h=>by
  obtain⟨v,vs',φ,Φs',rfl,rfl,hfz,hφ,hv,h⟩:=h
  obtain⟨h1,h2,h3,h4,h5,h6,h7,h8⟩:=qaO (i+1) h
  refine⟨by simp[h1],by simpa[qd,hφ,j9]using h2,λx hx=>Nat.le_trans (Nat.le_of_lt (qan (Nat.lt_succ_self i))) (h3 x hx),h4,h5,λx hx=>Nat.le_trans (Nat.le_of_lt (qan (Nat.lt_succ_self i))) (h6 x hx),h7,?_⟩
  intro Φ os hΦ hos t av ht
  rw[jW,jQ]at ht
  cases hb:Nat.beq i t with
  |true=>
   rw[hb]at ht
   cases ht
   obtain rfl:=Nat.eq_of_beq_eq_true hb
   exact⟨0,v,rfl,rfl,#[],#[],hv,rfl,rfl⟩
  |false=>
   rw[hb]at ht
   obtain⟨j,u,e,hu,hr⟩:=h8 Φ os hΦ hos t av ht
   exact⟨j+1,u,by omega,by simpa using hu,hr⟩
 |.m τ::ps,d,vs,Φs,i,h=>by
  obtain⟨v,vs',φ,Φs',rfl,rfl,hv,hok,h⟩:=h
  obtain⟨h1,h2,h3,h4,h5,h6,h7,h8⟩:=qaO (i+1) h
  have hlt:pid i<pid (i+1):=qan (Nat.lt_add_one i)
  refine⟨by simp[h1],by simpa[qd,j9]using h2,?_,?_,?_,?_,?_,?_⟩
  ·intro x hx
   rcases List.mem_cons.1 hx with rfl|hx
   ·exact Nat.le_refl _
   ·exact Nat.le_trans (Nat.le_of_lt hlt) (h3 x hx)
  ·simp only[j9,List.map_cons,List.nodup_cons]
   refine⟨λhm=>?_,h4⟩
   obtain⟨x,hx,e⟩:=List.mem_map.1 hm
   have:=h3 x hx
   omega
  ·simp only[jF,List.map_cons,List.nodup_cons]
   refine⟨λhm=>?_,h5⟩
   obtain⟨x,hx,e⟩:=List.mem_map.1 hm
   have:=h6 x hx
   omega
  ·intro x hx
   rcases List.mem_cons.1 hx with rfl|hx
   ·exact Nat.le_refl _
   ·exact Nat.le_trans (Nat.le_of_lt hlt) (h6 x hx)
  ·intro id x hx
   rcases List.mem_cons.1 hx with e|hx
   ·cases e
    exact⟨_,φ,rfl,List.mem_cons_self,hok⟩
   ·obtain⟨o,φ',e,hm,hok'⟩:=h7 id x hx
    exact⟨o,φ',e,List.mem_cons_of_mem _ hm,hok'⟩
  ·intro Φ os hΦ hos t av ht
   rw[jW,jQ]at ht
   cases hb:Nat.beq i t with
   |true=>
    rw[hb]at ht
    cases ht
    obtain rfl:=Nat.eq_of_beq_eq_true hb
    have e:=hΦ (pid i,φ) List.mem_cons_self
    simp only at e
    refine⟨0,v,rfl,rfl,⟨false,τ,d.1⟩,⟨τ,d.1⟩,φ.b,0,hos _ _ List.mem_cons_self,rfl,qH _ _,?_,hv⟩
    rw[e]
    exact j6 _ _ _ _
   |false=>
    rw[hb]at ht
    obtain⟨j,u,e,hu,hr⟩:=h8 Φ os (λx hx=>hΦ x (List.mem_cons_of_mem _ hx)) (λid o ho=>hos id o (List.mem_cons_of_mem _ ho)) t av ht
    exact⟨j+1,u,by omega,by simpa using hu,hr⟩
 |.gm τ::ps,d,vs,Φs,i,h=>by
  obtain⟨v,vs',φ,Φs',rfl,rfl,hv,hok,h⟩:=h
  obtain⟨h1,h2,h3,h4,h5,h6,h7,h8⟩:=qaO (i+1) h
  have hlt:pid i<pid (i+1):=qan (Nat.lt_add_one i)
  refine⟨by simp[h1],by simpa[qd,j9]using h2,?_,?_,?_,?_,?_,?_⟩
  ·intro x hx
   rcases List.mem_cons.1 hx with rfl|hx
   ·exact Nat.le_refl _
   ·exact Nat.le_trans (Nat.le_of_lt hlt) (h3 x hx)
  ·simp only[j9,List.map_cons,List.nodup_cons]
   refine⟨λhm=>?_,h4⟩
   obtain⟨x,hx,e⟩:=List.mem_map.1 hm
   have:=h3 x hx
   omega
  ·simp only[jF,List.map_cons,List.nodup_cons]
   refine⟨λhm=>?_,h5⟩
   obtain⟨x,hx,e⟩:=List.mem_map.1 hm
   have:=h6 x hx
   omega
  ·intro x hx
   rcases List.mem_cons.1 hx with rfl|hx
   ·exact Nat.le_refl _
   ·exact Nat.le_trans (Nat.le_of_lt hlt) (h6 x hx)
  ·intro id x hx
   rcases List.mem_cons.1 hx with e|hx
   ·cases e
    exact⟨_,φ,rfl,List.mem_cons_self,hok⟩
   ·obtain⟨o,φ',e,hm,hok'⟩:=h7 id x hx
    exact⟨o,φ',e,List.mem_cons_of_mem _ hm,hok'⟩
  ·intro Φ os hΦ hos t av ht
   rw[jW,jQ]at ht
   cases hb:Nat.beq i t with
   |true=>
    rw[hb]at ht
    cases ht
    obtain rfl:=Nat.eq_of_beq_eq_true hb
    have e:=hΦ (pid i,φ) List.mem_cons_self
    simp only at e
    refine⟨0,v,rfl,rfl,⟨false,τ,d.1⟩,⟨τ,d.1⟩,φ.b,0,hos _ _ List.mem_cons_self,rfl,qH _ _,?_,hv⟩
    rw[e]
    exact j6 _ _ _ _
   |false=>
    rw[hb]at ht
    obtain⟨j,u,e,hu,hr⟩:=h8 Φ os (λx hx=>hΦ x (List.mem_cons_of_mem _ hx)) (λid o ho=>hos id o (List.mem_cons_of_mem _ ho)) t av ht
    exact⟨j+1,u,by omega,by simpa using hu,hr⟩
 |.mr tid e::ps,d,vs,Φs,i,h=>by
  obtain⟨v,vs',φ,Φs',rfl,rfl,hv,hok,h⟩:=h
  obtain⟨h1,h2,h3,h4,h5,h6,h7,h8⟩:=qaO (i+1) h
  have hlt:pid i<pid (i+1):=qan (Nat.lt_add_one i)
  refine⟨by simp[h1],by simpa[qd,j9]using h2,?_,?_,?_,?_,?_,?_⟩
  ·intro x hx
   rcases List.mem_cons.1 hx with rfl|hx
   ·exact Nat.le_refl _
   ·exact Nat.le_trans (Nat.le_of_lt hlt) (h3 x hx)
  ·simp only[j9,List.map_cons,List.nodup_cons]
   refine⟨λhm=>?_,h4⟩
   obtain⟨x,hx,e⟩:=List.mem_map.1 hm
   have:=h3 x hx
   omega
  ·simp only[jF,List.map_cons,List.nodup_cons]
   refine⟨λhm=>?_,h5⟩
   obtain⟨x,hx,e⟩:=List.mem_map.1 hm
   have:=h6 x hx
   omega
  ·intro x hx
   rcases List.mem_cons.1 hx with rfl|hx
   ·exact Nat.le_refl _
   ·exact Nat.le_trans (Nat.le_of_lt hlt) (h6 x hx)
  ·intro id x hx
   rcases List.mem_cons.1 hx with e|hx
   ·cases e
    exact⟨_,φ,rfl,List.mem_cons_self,hok⟩
   ·obtain⟨o,φ',e,hm,hok'⟩:=h7 id x hx
    exact⟨o,φ',e,List.mem_cons_of_mem _ hm,hok'⟩
  ·intro Φ os hΦ hos t av ht
   rw[jW,jQ]at ht
   cases hb:Nat.beq i t with
   |true=>
    rw[hb]at ht
    cases ht
    obtain rfl:=Nat.eq_of_beq_eq_true hb
    have e:=hΦ (pid i,φ) List.mem_cons_self
    simp only at e
    refine⟨0,v,rfl,rfl,⟨true,.list true tid _,d.1⟩,⟨.list true tid _,d.1⟩,hos _ _ List.mem_cons_self,qH _ _,?_⟩
    simp only[List.isEmpty_nil,Bool.and_self]
    rw[e]
    exact hv
   |false=>
    rw[hb]at ht
    obtain⟨j,u,e,hu,hr⟩:=h8 Φ os (λx hx=>hΦ x (List.mem_cons_of_mem _ hx)) (λid o ho=>hos id o (List.mem_cons_of_mem _ ho)) t av ht
    exact⟨j+1,u,by omega,by simpa using hu,hr⟩
 |.t tid e::ps,d,vs,Φs,i,h=>by
  obtain⟨v,vs',φ,Φs',rfl,rfl,hv,hok,h⟩:=h
  obtain⟨h1,h2,h3,h4,h5,h6,h7,h8⟩:=qaO (i+1) h
  have hlt:pid i<pid (i+1):=qan (Nat.lt_add_one i)
  refine⟨by simp[h1],by simpa[qd,j9]using h2,?_,?_,?_,?_,?_,?_⟩
  ·intro x hx
   rcases List.mem_cons.1 hx with rfl|hx
   ·exact Nat.le_refl _
   ·exact Nat.le_trans (Nat.le_of_lt hlt) (h3 x hx)
  ·simp only[j9,List.map_cons,List.nodup_cons]
   refine⟨λhm=>?_,h4⟩
   obtain⟨x,hx,e⟩:=List.mem_map.1 hm
   have:=h3 x hx
   omega
  ·simp only[jF,List.map_cons,List.nodup_cons]
   refine⟨λhm=>?_,h5⟩
   obtain⟨x,hx,e⟩:=List.mem_map.1 hm
   have:=h6 x hx
   omega
  ·intro x hx
   rcases List.mem_cons.1 hx with rfl|hx
   ·exact Nat.le_refl _
   ·exact Nat.le_trans (Nat.le_of_lt hlt) (h6 x hx)
  ·intro id x hx
   rcases List.mem_cons.1 hx with e|hx
   ·cases e
    exact⟨_,φ,rfl,List.mem_cons_self,hok⟩
   ·obtain⟨o,φ',e,hm,hok'⟩:=h7 id x hx
    exact⟨o,φ',e,List.mem_cons_of_mem _ hm,hok'⟩
  ·intro Φ os hΦ hos t av ht
   rw[jW,jQ]at ht
   cases hb:Nat.beq i t with
   |true=>
    rw[hb]at ht
    cases ht
    obtain rfl:=Nat.eq_of_beq_eq_true hb
    have e:=hΦ (pid i,φ) List.mem_cons_self
    simp only at e
    refine⟨0,v,rfl,rfl,⟨true,.list true tid _,d.1⟩,⟨.list true tid _,d.1⟩,hos _ _ List.mem_cons_self,qH _ _,?_⟩
    simp only[List.isEmpty_nil,Bool.and_self]
    rw[e]
    exact hv
   |false=>
    rw[hb]at ht
    obtain⟨j,u,e,hu,hr⟩:=h8 Φ os (λx hx=>hΦ x (List.mem_cons_of_mem _ hx)) (λid o ho=>hos id o (List.mem_cons_of_mem _ ho)) t av ht
    exact⟨j+1,u,by omega,by simpa using hu,hr⟩
 |.cm f τ::ps,d,vs,Φs,i,h=>by
  obtain⟨v,vs',φ,Φs',rfl,rfl,hv,hok,h⟩:=h
  obtain⟨h1,h2,h3,h4,h5,h6,h7,h8⟩:=qaO (i+1) h
  have hlt:pid i<pid (i+1):=qan (Nat.lt_add_one i)
  refine⟨by simp[h1],by simpa[qd,j9]using h2,?_,?_,?_,?_,?_,?_⟩
  ·intro x hx
   rcases List.mem_cons.1 hx with rfl|hx
   ·exact Nat.le_refl _
   ·exact Nat.le_trans (Nat.le_of_lt hlt) (h3 x hx)
  ·simp only[j9,List.map_cons,List.nodup_cons]
   refine⟨λhm=>?_,h4⟩
   obtain⟨x,hx,e⟩:=List.mem_map.1 hm
   have:=h3 x hx
   omega
  ·simp only[jF,List.map_cons,List.nodup_cons]
   refine⟨λhm=>?_,h5⟩
   obtain⟨x,hx,e⟩:=List.mem_map.1 hm
   have:=h6 x hx
   omega
  ·intro x hx
   rcases List.mem_cons.1 hx with rfl|hx
   ·exact Nat.le_refl _
   ·exact Nat.le_trans (Nat.le_of_lt hlt) (h6 x hx)
  ·intro id x hx
   rcases List.mem_cons.1 hx with e|hx
   ·cases e
    exact⟨_,φ,rfl,List.mem_cons_self,hok⟩
   ·obtain⟨o,φ',e,hm,hok'⟩:=h7 id x hx
    exact⟨o,φ',e,List.mem_cons_of_mem _ hm,hok'⟩
  ·intro Φ os hΦ hos t av ht
   rw[jW,jQ]at ht
   cases hb:Nat.beq i t with
   |true=>
    rw[hb]at ht
    cases ht
    obtain rfl:=Nat.eq_of_beq_eq_true hb
    have e:=hΦ (pid i,φ) List.mem_cons_self
    simp only at e
    refine⟨0,v,rfl,rfl,#[],#[.pointer (some ⟨φ.b,0,none⟩)],hv,rfl,_,[],rfl,⟨⟨false,τ,d.1⟩,⟨τ,d.1⟩,φ.b,0,hos _ _ List.mem_cons_self,rfl,qH _ _,?_,rfl⟩,rfl⟩
    rw[e]
    exact j6 _ _ _ _
   |false=>
    rw[hb]at ht
    obtain⟨j,u,e,hu,hr⟩:=h8 Φ os (λx hx=>hΦ x (List.mem_cons_of_mem _ hx)) (λid o ho=>hos id o (List.mem_cons_of_mem _ ho)) t av ht
    exact⟨j+1,u,by omega,by simpa using hu,hr⟩
def qbG(w:World)(H:FH)(nt:Nat)(ps:List jT)(Φs:List qB):Ctx:=⟨w,(· ∈qd Φs),H,nt,lk (j9 ps Φs 0),[],λ_=>none⟩
theorem qd2{ps:List jT}{d:PDens ps}{vs:List Value}{Φs:List qB}(hok:HOk H w)(hargs:jP P w H ps d vs Φs)(hnd:(qd Φs).Nodup)(hfr:∀b∈qd Φs,H b=none/\b<w.heap.size){nt:Nat}(hnt:ps.length<=nt):
  qg P (qbG w H nt ps Φs) (qcx ps d) {tmps:=vs.toArray++Array.replicate (nt-vs.toArray.size) undef,defers:=[]} w H (λid=>(lk (j9 ps Φs 0) id).getD (nilI id)):=by
 obtain⟨h1,h2,h3,h4,h5,h6,h7,h8⟩:=qaO (C:=qbG w H nt ps Φs) 0 hargs
 have hΦ:∀x∈j9 ps Φs 0,(lk (j9 ps Φs 0) x.1).getD (nilI x.1)=x.2:=λx hx=>by rw[qfn h4 hx];rfl
 have hobj:∀id o,(qcx ps d).obj id=some o->(id,some o)∈jF ps 0 d:=by
  intro id o ho
  have ho':(lk (jF ps 0 d) id).join=some o:=ho
  cases hq:lk (jF ps 0 d) id with
  |none=>rw[hq]at ho';cases ho'
  |some x=>rw[hq]at ho';simp only[Option.join_some]at ho';rw[<-ho'];exact qbC hq
 have hpin:∀id o,(qcx ps d).obj id=some o->∃φ,(id,φ)∈j9 ps Φs 0/\qK P w H o φ:=by
  intro id o ho
  obtain⟨o',φ,e,hm,hok⟩:=h7 id _ (hobj id o ho)
  cases e
  exact⟨φ,hm,hok⟩
 refine⟨rfl,?_,FH.le_refl _,hok,λb c hb=>.inl hb,jM.refl _ _,?_,?_,?_,?_⟩
 ·simp only[Array.size_append,List.size_toArray,Array.size_replicate,qbG]
  omega
 ·intro t av ht
  obtain⟨j,v,e,hv,hr⟩:=h8 (λid=>(lk (j9 ps Φs 0) id).getD (nilI id)) (qcx ps d).obj hΦ (λid o ho=>by
   show(lk (jF ps 0 d) id).join=some o
   rw[qfn h5 ho];rfl) t av ht
  obtain rfl:t=j:=by omega
  have:(vs.toArray++Array.replicate (nt-vs.toArray.size) undef).getD t undef=v:=by
   have hlt:=(List.getElem?_eq_some_iff.1 hv).1
   rw[Array.getD_eq_getD_getElem?,Array.getElem?_append_left (by simpa using hlt)]
   simp[hv]
  simp only[this]
  exact hr
 ·intro id o ho
  obtain⟨φ,hm,hok⟩:=hpin id o ho
  rw[hΦ _ hm]
  refine⟨hok,λb hb=>?_⟩
  have hb':b∈qd Φs:=by rw[h2];exact List.mem_flatMap.2 ⟨_,hm,hb⟩
  exact⟨(hfr b hb').1,.inl hb',(hfr b hb').2⟩
 ·intro i j o o' hij hi hj b hb
  obtain⟨φ,hm,_⟩:=hpin i o hi
  obtain⟨φ',hm',_⟩:=hpin j o' hj
  rw[hΦ _ hm]at hb
  rw[hΦ _ hm']
  rw[h2]at hnd
  exact qgZ hnd _ hm _ hm' (by intro e;cases e;exact hij rfl) b hb
 ·refine⟨λid φ hφ=>?_,λid=>?_⟩
  ·have:lk (j9 ps Φs 0) id=some φ:=hφ
   rw[this]
   exact⟨rfl,rfl⟩
  ·cases hq:lk (j9 ps Φs 0) id with
   |none=>exact nilI_cls id
   |some φ=>
    have h:=h3 _ (qbC hq)
    exact cls_high (Nat.le_trans (by unfold pid;omega) h)
theorem qe9{ps:List jT}{d:PDens ps}{vs:List Value}{Φs:List qB}(hargs:jP P w H ps d vs Φs):qz (qbG w H cfg.nt ps Φs) cfg:=by
 obtain⟨_,_,h3,_⟩:=qaO (C:=qbG w H cfg.nt ps Φs) 0 hargs
 refine⟨rfl,λid hid=>?_⟩
 show lk (j9 ps Φs 0) id=none
 cases hq:lk (j9 ps Φs 0) id with
 |none=>rfl
 |some φ=>
  have h:=h3 _ (qbC hq)
  have h':pid 0<=id:=h
  unfold pid at h'
  omega
end
end Go.Vi
namespace Go.Vi
section
variable {P:Program} {C:Ctx} {cfg:jG} {R:Type} {r:R} {s:St} {a:Act} {w:World} {H:FH} {Φ:Nat->qB}
theorem qcJ{t:TypeId}{τ:Ty}(h:qN P t τ){w:World}{b o:Nat}{blk:Array Value}{bt:TypeId}{f:Nat×Nat}(hb:w.heap[b]? = some (.cells blk bt f))(hs:(seg blk o τ.size).length=τ.size):
  (loadVar t ⟨b,o,none⟩).run P w = .ok (jZ τ (seg blk o τ.size)) w:=by
 obtain⟨_,_,_,hp,_⟩:=h.info
 obtain⟨pre,post,e1,e2⟩:=qjy hs hp
 have:=qhe h hb e1 hs
 rw[e2]at this
 exact this
theorem loadK_ok(hcfg:qu P cfg)(hs:qg P C s a w H Φ){T:TypeId}{av:AV}{v:Value}(hr:qh P C w H Φ s.obj av v){kk:AV->Option R}(h:qlz s (lk cfg.ty T) av kk=some r):
  ∃bv u,kk bv=some r/\qh P C w H Φ s.obj bv u/\∃ad,v = .pointer (some ad)/\(loadVar T ad).run P w = .ok u w:=by
 unfold qlz at h
 split at h
 ·rename_i σ y
  cases hT:decide (lk cfg.ty T=some σ)with
  |false=>rw[hT]at h;cases h
  |true=>
   rw[hT,cond_true]at h
   obtain⟨hty,_⟩:=hcfg.ty T _ (of_decide_eq_true hT)
   obtain⟨hf,b,o,blk,hv,hH,hrep⟩:=hr
   obtain⟨t,f,hb⟩:=hs.hok.cells hH
   exact⟨_,jZ σ (seg blk o σ.size),h,⟨hf,_,rfl,hrep⟩,_,hv,qcJ hty hb (qm.length σ hrep)⟩
 ·rename_i id p
  obtain⟨o,y,b,off,h1,h2,h3,h4,hv⟩:=hr
  rw[h1]at h
  simp only[h2,cond_false]at h
  have hyt:=jD _ h3
  rw[hyt]at h
  obtain⟨σ,y⟩:=y
  simp only at h hyt
  cases hT:decide (lk cfg.ty T=some σ.fz)with
  |false=>rw[hT]at h;cases h
  |true=>
   rw[hT,cond_true]at h
   obtain⟨hty,_⟩:=hcfg.ty T _ (of_decide_eq_true hT)
   have hty':=qN.unfz hty
   have hok:=(hs.os id o h1).1
   obtain⟨b',o',hl,blk',t',pre',c,post',f1,f',f2,e1,e2,e3,e4,e5,e6,_⟩:=hok.desc (y:=y) h3 ⟨w,_,_,h4⟩ h2
   obtain⟨rfl,rfl⟩:=jS.det h4 (hl w (λ_ _=>rfl))
   have hseg:seg blk' off σ.size=c:=by rw[<-e3];exact qU e2 (qm.length σ e6)
   have hrun:(loadVar T ⟨b,off,none⟩).run P w = .ok (jZ σ c) w:=by
    have:=qcJ hty' (o:=off) e1 (by rw[hseg];exact qm.length σ e6)
    rw[hseg]at this
    exact this
   cases hfz:σ.isFz with
   |true=>
    rw[hfz,cond_true,jJ,h3]at h
    have hf0:=qm.fz_fp σ hfz e6
    subst hf0
    exact⟨_,jZ σ c,h,⟨hfz,c,rfl,e6⟩,_,hv,hrun⟩
   |false=>
    rw[hfz,cond_false]at h
    refine⟨_,jZ σ c,h,⟨o,⟨σ,y⟩,h1,h3,?_⟩,_,hv,hrun⟩
    rw[h2]
    exact⟨b,off,blk',t',h4,e1,by rw[hseg]⟩
 ·cases h
def qhP(P:Program)(a:Act)(w:World)(v:ResultVar)(u:Value):Prop:=
 (match v with
  |.tmp t=>(pure (a.tmps.getD t undef):Sem Value)
  |.cell x t=>do loadVar t (<-asAddr (a.tmps.getD x undef))).run P w = .ok u w
theorem qez(hcfg:qu P cfg)(hs:qg P C s a w H Φ){v:ResultVar}{kk:AV->Option R}(h:qh4 cfg s v kk=some r):∃av u,kk av=some r/\qh P C w H Φ s.obj av u/\qhP P a w v u:=by
 unfold qh4 at h
 split at h
 ·rename_i t
  split at h
  ·rename_i av hav
   exact⟨av,_,h,hs.ts t av hav,rfl⟩
  ·cases h
 ·rename_i t T
  split at h
  ·rename_i av hav
   obtain⟨bv,u,h,hr,ad,hv,hrun⟩:=loadK_ok hcfg hs (hs.ts t av hav) h
   refine⟨bv,u,h,hr,?_⟩
   unfold qhP
   simp[hv,asAddr,hrun]
  ·cases h
theorem qle(g:ResultVar->Sem Value):∀(l:List ResultVar) (us:List Value),qaa (λv u=>(g v).run P w = .ok u w) l us->(l.mapM g).run P w = .ok us w
 |[],us,h=>by match us,h with|[],_=>simp
 |v::l,us,h=>by
  match us,h with
  |u::us,h=>
   have h1:=h.1
   simp only at h1
   rw[List.mapM_cons]
   simp only[Sem.run_bind,h1,Result.andThen_ok,qle g l us h.2]
   simp
  |[],h=>exact h.elim
theorem qnP(g:ResultVar->Sem Value)(l:Array ResultVar)(us:List Value)(h:qaa (λv u=>(g v).run P w = .ok u w) l.toList us):(l.mapM g).run P w = .ok us.toArray w:=by
 rw[Array.mapM_eq_mapM_toList]
 simp only[Sem.run_map,qle g _ _ h,Result.andThen_ok]
theorem qeA{fn:Func}{us:List Value}(h:qaa (qhP P a w) fn.results.toList us):(results fn a.tmps).run P w = .ok (qap us) w:=by
 unfold results
 rw[Sem.run_bind,qnP _ fn.results us (qaa.imp (λv u h=>by cases v<;>exact h) h)]
 simp only[Result.andThen_ok]
 match us with
 |[]=>simp[qap]
 |[u]=>simp[qap]
 |_::_::_=>simp[qap]
theorem qh3(s:St)(av:AV)(τ:Ty)(kk:τ.den->Option R):qb8 s av τ kk=(qb8 s av τ some).bind kk:=by
 unfold qb8
 split
 ·simp[qi]
 ·split
  ·simp only[jJ,qi]
   cases qP _ _ _<;>simp
  ·rfl
 ·simp[qi]
 ·split
  ·rename_i o _
   cases o.row with
   |true=>rfl
   |false=>
    simp only[cond_false]
    split
    ·simp[qi]
    ·rfl
  ·rfl
 ·rfl
theorem qj5{l r:List Nat}(h:apart l r=true){id:Nat}(hid:id∈l):id∉r:=(qcg h).2 id hid
theorem qd7(hcfg:qu P cfg)(hs:qg P C s a w H Φ):∀{vs:List ResultVar} {rs:List RTy} {used:List Nat} {kk:RDens rs->Option R},qhy cfg s used vs rs kk=some r->
  ∃T hand:List Nat,(∀id∈T,id∉used)/\hand.Nodup/\(∀id∈hand,id∉used/\id∉T)/\∀Hf,H.le Hf->Fzn w Hf Φ s.obj T->
   ∃d us Ψs,kk d=some r/\qaa (qhP P a w) vs us/\qal P w Hf rs d us Ψs/\(qd Ψs).Nodup/\∀b∈qd Ψs,∃id∈hand,∃o,s.obj id=some o/\b∈(Φ id).fp
 |[],[],used,kk,h=>⟨[],[],by simp,by simp,by simp,λHf _ _=>⟨(),[],[],h,trivial,⟨rfl,rfl⟩,by simp[qd],by simp[qd]⟩⟩
 |[],.v _::_,_,_,h=>by cases h
 |[],.own _ _::_,_,_,h=>by cases h
 |[],.optr _::_,_,_,h=>by cases h
 |[],.ownv _::_,_,_,h=>by cases h
 |[],.sure _ _ _::_,_,_,h=>by cases h
 |_::_,[],_,_,h=>by cases h
 |v::vs,.v τ::rs,used,kk,h=>by
  simp only[qhy]at h
  obtain⟨av,u,h,hr,hrun⟩:=qez hcfg hs h
  cases hap:apart av.touches used with
  |false=>rw[hap]at h;cases h
  |true=>
  rw[hap,cond_true]at h
  rw[qh3]at h
  replace h:=Option.bind_eq_some_iff.1 h
  obtain⟨x,hsn,hx⟩:=h
  obtain⟨T,hand,t1,t2,t3,t4⟩:=qd7 hcfg hs hx
  refine⟨av.touches++T,hand,?_,t2,?_,?_⟩
  ·intro id hid
   rcases List.mem_append.1 hid with hid|hid
   ·exact qj5 hap hid
   ·exact λhu=>t1 id hid (List.mem_append.2 (.inr hu))
  ·intro id hid
   obtain⟨q1,q2⟩:=t3 id hid
   refine⟨λhu=>q1 (List.mem_append.2 (.inr hu)),λhu=>?_⟩
   rcases List.mem_append.1 hu with hu|hu
   ·exact q1 (List.mem_append.2 (.inl hu))
   ·exact q2 hu
  ·intro Hf hle hf
   obtain⟨hfz,x2,hx2,hv2⟩:=qda hs hle (FH.le_refl Hf) (λid hid=>hf id (by simp[hid])) (.inl hr) hsn
   cases hx2
   obtain⟨d,us,Ψs,g1,g2,g3,g4,g5⟩:=t4 Hf hle (λid hid=>hf id (by simp[hid]))
   exact⟨(x,d),u::us,qw::Ψs,g1,⟨hrun,g2⟩,⟨u,us,qw,Ψs,rfl,rfl,hfz,rfl,hv2,g3⟩,by simpa[qd,qw]using g4,by simpa[qd,qw]using g5⟩
 |v::vs,.own tid e::rs,used,kk,h=>by
  simp only[qhy]at h
  obtain⟨av,u,h,hr,hrun⟩:=qez hcfg hs h
  split at h
  case h_2=>cases h
  rename_i id p
  cases hu:jY id used with
  |true=>rw[hu]at h;cases h
  |false=>
  rw[hu,cond_false]at h
  have hnu:id∉used:=λhm=>by rw[qa6.2 hm]at hu;cases hu
  split at h
  case h_2=>cases h
  rename_i o ho
  rw[jJ]at h
  replace h:=Option.bind_eq_some_iff.1 h
  obtain⟨y,hy,h⟩:=h
  rw[qi]at h
  replace h:=Option.bind_eq_some_iff.1 h
  obtain⟨x,hx,h⟩:=h
  obtain⟨T,hand,t1,t2,t3,t4⟩:=qd7 hcfg hs h
  have hok:=(hs.os id o ho).1
  obtain⟨cs,fp,hv,hrep,hsub,hndf⟩:=qaX hr ho hok hy
  obtain⟨σ,y⟩:=y
  obtain⟨e1,hx⟩:=qf hx
  simp only at e1
  subst e1
  subst hx
  have hnf:=qbv _ hok.1 hy
  obtain⟨hdr,xs,fp',rfl,rfl,k3,k4⟩:=hrep
  refine⟨T,id::hand,λj hj hm=>t1 j hj (List.mem_cons_of_mem _ hm),?_,?_,?_⟩
  ·exact List.nodup_cons.2 ⟨λhm=>(t3 id hm).1 List.mem_cons_self,t2⟩
  ·intro j hj
   rcases List.mem_cons.1 hj with rfl|hj
   ·exact⟨hnu,λhm=>t1 j hm List.mem_cons_self⟩
   ·exact⟨λhm=>(t3 j hj).1 (List.mem_cons_of_mem _ hm),(t3 j hj).2⟩
  ·intro Hf hle hf
   obtain⟨d,us,Ψs,g1,g2,g3,g4,g5⟩:=t4 Hf hle hf
   have hv':u=hdr:=hv
   refine⟨(_,d),u::us,⟨0,hdr,hdr.ownBlock.toList++fp'⟩::Ψs,g1,⟨hrun,g2⟩,⟨u,us,_,Ψs,rfl,rfl,hv',qK.of_list hnf hndf (qm.mono _ hle (λ_ _=>rfl) ⟨hdr,xs,fp',rfl,rfl,k3,k4⟩),g3⟩,?_,?_⟩
   ·have:qd (⟨0,hdr,hdr.ownBlock.toList++fp'⟩::Ψs)=(hdr.ownBlock.toList++fp')++qd Ψs:=by simp[qd]
    rw[this,List.nodup_append]
    refine⟨hndf,g4,?_⟩
    rintro b hb _ hb' rfl
    obtain⟨j,hj,o',ho',hbj⟩:=g5 b hb'
    exact hs.disj id j o o' (by rintro rfl;exact(t3 id hj).1 List.mem_cons_self) ho ho' b (hsub b hb) hbj
   ·intro b hb
    have:qd (⟨0,hdr,hdr.ownBlock.toList++fp'⟩::Ψs)=(hdr.ownBlock.toList++fp')++qd Ψs:=by simp[qd]
    rw[this]at hb
    rcases List.mem_append.1 hb with hb|hb
    ·exact⟨id,List.mem_cons_self,o,ho,hsub b hb⟩
    ·obtain⟨j,hj,o',ho',hbj⟩:=g5 b hb
     exact⟨j,List.mem_cons_of_mem _ hj,o',ho',hbj⟩
 |v::vs,.ownv τ::rs,used,kk,h=>by
  simp only[qhy]at h
  obtain⟨av,u,h,hr,hrun⟩:=qez hcfg hs h
  split at h
  case h_2=>cases h
  rename_i id p
  cases hu0:jY id used || !qlg τ with
  |true=>rw[hu0]at h;cases h
  |false=>
  rw[hu0,cond_false]at h
  rw[Bool.or_eq_false_iff,Bool.not_eq_false']at hu0
  obtain⟨hu,hrow⟩:=hu0
  have hnu:id∉used:=λhm=>by rw[qa6.2 hm]at hu;cases hu
  split at h
  case h_2=>cases h
  rename_i o ho
  rw[jJ]at h
  replace h:=Option.bind_eq_some_iff.1 h
  obtain⟨y,hy,h⟩:=h
  rw[qi]at h
  replace h:=Option.bind_eq_some_iff.1 h
  obtain⟨x,hx,h⟩:=h
  obtain⟨T,hand,t1,t2,t3,t4⟩:=qd7 hcfg hs h
  have hok:=(hs.os id o ho).1
  obtain⟨cs,fp,hv,hrep,hsub,hndf⟩:=qaX hr ho hok hy
  obtain⟨σ,y⟩:=y
  obtain⟨e1,hx⟩:=qf hx
  simp only at e1
  subst e1
  subst hx
  have hnf:=qbv _ hok.1 hy
  refine⟨T,id::hand,λj hj hm=>t1 j hj (List.mem_cons_of_mem _ hm),?_,?_,?_⟩
  ·exact List.nodup_cons.2 ⟨λhm=>(t3 id hm).1 List.mem_cons_self,t2⟩
  ·intro j hj
   rcases List.mem_cons.1 hj with rfl|hj
   ·exact⟨hnu,λhm=>t1 j hm List.mem_cons_self⟩
   ·exact⟨λhm=>(t3 j hj).1 (List.mem_cons_of_mem _ hm),(t3 j hj).2⟩
  ·intro Hf hle hf
   obtain⟨d,us,Ψs,g1,g2,g3,g4,g5⟩:=t4 Hf hle hf
   refine⟨(_,d),u::us,⟨0,u,fp⟩::Ψs,g1,⟨hrun,g2⟩,⟨u,us,_,Ψs,rfl,rfl,rfl,⟨hnf,hndf,hrow,cs,hv,qm.mono _ hle (λ_ _=>rfl) hrep⟩,g3⟩,?_,?_⟩
   ·have:qd (⟨0,u,fp⟩::Ψs)=fp++qd Ψs:=by simp[qd]
    rw[this,List.nodup_append]
    refine⟨hndf,g4,?_⟩
    rintro b hb _ hb' rfl
    obtain⟨j,hj,o',ho',hbj⟩:=g5 b hb'
    exact hs.disj id j o o' (by rintro rfl;exact(t3 id hj).1 List.mem_cons_self) ho ho' b (hsub b hb) hbj
   ·intro b hb
    have:qd (⟨0,u,fp⟩::Ψs)=fp++qd Ψs:=by simp[qd]
    rw[this]at hb
    rcases List.mem_append.1 hb with hb|hb
    ·exact⟨id,List.mem_cons_self,o,ho,hsub b hb⟩
    ·obtain⟨j,hj,o',ho',hbj⟩:=g5 b hb
     exact⟨j,List.mem_cons_of_mem _ hj,o',ho',hbj⟩
 |v::vs,.optr τ::rs,used,kk,h=>by
  simp only[qhy]at h
  obtain⟨av,u,h,hr,hrun⟩:=qez hcfg hs h
  split at h
  case h_2=>cases h
  rename_i id
  cases hu:jY id used with
  |true=>rw[hu]at h;cases h
  |false=>
  rw[hu,cond_false]at h
  have hnu:id∉used:=λhm=>by rw[qa6.2 hm]at hu;cases hu
  split at h
  case h_2=>cases h
  rename_i o ho
  obtain⟨row,σ,x0⟩:=o
  cases row with
  |true=>cases h
  |false=>
  simp only[cond_false,qi]at h
  replace h:=Option.bind_eq_some_iff.1 h
  obtain⟨x,hx,h⟩:=h
  obtain⟨T,hand,t1,t2,t3,t4⟩:=qd7 hcfg hs h
  have hok:=(hs.os id _ ho).1
  obtain⟨e1,hx⟩:=qf hx
  subst e1
  subst hx
  obtain⟨o2,y2,b,off,q1,_,_,q4,q5⟩:=hr
  rw[ho]at q1
  cases q1
  obtain⟨rfl,rfl⟩:=jO.det _ q4 (j6 w σ (Φ id).b 0)
  refine⟨T,id::hand,λj hj hm=>t1 j hj (List.mem_cons_of_mem _ hm),?_,?_,?_⟩
  ·exact List.nodup_cons.2 ⟨λhm=>(t3 id hm).1 List.mem_cons_self,t2⟩
  ·intro j hj
   rcases List.mem_cons.1 hj with rfl|hj
   ·exact⟨hnu,λhm=>t1 j hm List.mem_cons_self⟩
   ·exact⟨λhm=>(t3 j hj).1 (List.mem_cons_of_mem _ hm),(t3 j hj).2⟩
  ·intro Hf hle hf
   obtain⟨d,us,Ψs,g1,g2,g3,g4,g5⟩:=t4 Hf hle hf
   have hfe:qd (Φ id::Ψs)=(Φ id).fp++qd Ψs:=by simp[qd]
   refine⟨(_,d),u::us,Φ id::Ψs,g1,⟨hrun,g2⟩,⟨u,us,_,Ψs,rfl,rfl,q5,hok.frame hle (λ_ _=>rfl),g3⟩,?_,?_⟩
   ·rw[hfe,List.nodup_append]
    refine⟨hok.2.1,g4,?_⟩
    rintro b hb _ hb' rfl
    obtain⟨j,hj,o',ho',hbj⟩:=g5 b hb'
    exact hs.disj id j _ o' (by rintro rfl;exact(t3 id hj).1 List.mem_cons_self) ho ho' b hb hbj
   ·intro b hb
    rw[hfe]at hb
    rcases List.mem_append.1 hb with hb|hb
    ·exact⟨id,List.mem_cons_self,_,ho,hb⟩
    ·obtain⟨j,hj,o',ho',hbj⟩:=g5 b hb
     exact⟨j,List.mem_cons_of_mem _ hj,o',ho',hbj⟩
 |v::vs,.sure nn tid e::rs,used,kk,h=>by
  simp only[qhy]at h
  obtain⟨av,u,h,hr,hrun⟩:=qez hcfg hs h
  split at h
  case h_2=>cases h
  rename_i id
  cases hu:jY id used || !qfz id nn with
  |true=>rw[hu]at h;cases h
  |false=>
  rw[hu,cond_false]at h
  rw[Bool.or_eq_false_iff,Bool.not_eq_false']at hu
  have hnu:id∉used:=λhm=>by rw[qa6.2 hm]at hu;cases hu.1
  split at h
  case h_2=>cases h
  rename_i o ho
  obtain⟨row,σ,x0⟩:=o
  cases row with
  |false=>cases h
  |true=>
  simp only[cond_true,qi]at h
  replace h:=Option.bind_eq_some_iff.1 h
  obtain⟨x,hx,h⟩:=h
  obtain⟨T,hand,t1,t2,t3,t4⟩:=qd7 hcfg hs h
  have hok:=(hs.os id _ ho).1
  obtain⟨e1,hx⟩:=qf hx
  subst e1
  subst hx
  obtain⟨o2,y2,q1,_,q5⟩:=hr
  rw[ho]at q1
  cases q1
  simp only[List.isEmpty_nil,Bool.and_self]at q5
  have hsv:=qhY hu.2 (hs.pins.2 id)
  refine⟨T,id::hand,λj hj hm=>t1 j hj (List.mem_cons_of_mem _ hm),?_,?_,?_⟩
  ·exact List.nodup_cons.2 ⟨λhm=>(t3 id hm).1 List.mem_cons_self,t2⟩
  ·intro j hj
   rcases List.mem_cons.1 hj with rfl|hj
   ·exact⟨hnu,λhm=>t1 j hm List.mem_cons_self⟩
   ·exact⟨λhm=>(t3 j hj).1 (List.mem_cons_of_mem _ hm),(t3 j hj).2⟩
  ·intro Hf hle hf
   obtain⟨d,us,Ψs,g1,g2,g3,g4,g5⟩:=t4 Hf hle hf
   have hfe:qd (Φ id::Ψs)=(Φ id).fp++qd Ψs:=by simp[qd]
   refine⟨(_,d),u::us,Φ id::Ψs,g1,⟨hrun,g2⟩,⟨u,us,_,Ψs,rfl,rfl,q5,hok.frame hle (λ_ _=>rfl),hsv,g3⟩,?_,?_⟩
   ·rw[hfe,List.nodup_append]
    refine⟨hok.2.1,g4,?_⟩
    rintro b hb _ hb' rfl
    obtain⟨j,hj,o',ho',hbj⟩:=g5 b hb'
    exact hs.disj id j _ o' (by rintro rfl;exact(t3 id hj).1 List.mem_cons_self) ho ho' b hb hbj
   ·intro b hb
    rw[hfe]at hb
    rcases List.mem_append.1 hb with hb|hb
    ·exact⟨id,List.mem_cons_self,_,ho,hb⟩
    ·obtain⟨j,hj,o',ho',hbj⟩:=g5 b hb
     exact⟨j,List.mem_cons_of_mem _ hj,o',ho',hbj⟩
end
end Go.Vi
namespace Go.Vi
section
variable {P:Program} {C:Ctx} {cfg:jG} {s:St} {a:Act} {w:World} {H:FH} {Φ:Nat->qB}
theorem qaU:∀{ps:List jT} {i:Nat},(∀id∈qaA ps i,pid i<=id)/\(qaA ps i).Nodup
 |[],_=>⟨by simp[qaA],by simp[qaA]⟩
 |.v _::ps,i=>by
  obtain⟨h1,h2⟩:=qaU (ps:=ps) (i:=i+1)
  exact⟨λid hid=>Nat.le_trans (Nat.le_of_lt (qan (Nat.lt_add_one i))) (h1 id hid),h2⟩
 |.r _::ps,i=>by
  obtain⟨h1,h2⟩:=qaU (ps:=ps) (i:=i+1)
  exact⟨λid hid=>Nat.le_trans (Nat.le_of_lt (qan (Nat.lt_add_one i))) (h1 id hid),h2⟩
 |.c _::ps,i=>by
  obtain⟨h1,h2⟩:=qaU (ps:=ps) (i:=i+1)
  exact⟨λid hid=>Nat.le_trans (Nat.le_of_lt (qan (Nat.lt_add_one i))) (h1 id hid),h2⟩
 |.m _::ps,i=>by
  obtain⟨h1,h2⟩:=qaU (ps:=ps) (i:=i+1)
  have hlt:pid i<pid (i+1):=qan (Nat.lt_add_one i)
  refine⟨λid hid=>?_,List.nodup_cons.2 ⟨λhm=>?_,h2⟩⟩
  ·rcases List.mem_cons.1 hid with rfl|hid
   ·exact Nat.le_refl _
   ·exact Nat.le_trans (Nat.le_of_lt hlt) (h1 id hid)
  ·have:=h1 _ hm;omega
 |.mr _ _::ps,i=>by
  obtain⟨h1,h2⟩:=qaU (ps:=ps) (i:=i+1)
  have hlt:pid i<pid (i+1):=qan (Nat.lt_add_one i)
  refine⟨λid hid=>?_,List.nodup_cons.2 ⟨λhm=>?_,h2⟩⟩
  ·rcases List.mem_cons.1 hid with rfl|hid
   ·exact Nat.le_refl _
   ·exact Nat.le_trans (Nat.le_of_lt hlt) (h1 id hid)
  ·have:=h1 _ hm;omega
 |.t _ _::ps,i=>by
  obtain⟨h1,h2⟩:=qaU (ps:=ps) (i:=i+1)
  exact⟨λid hid=>Nat.le_trans (Nat.le_of_lt (qan (Nat.lt_add_one i))) (h1 id hid),h2⟩
 |.gm _::ps,i=>by
  obtain⟨h1,h2⟩:=qaU (ps:=ps) (i:=i+1)
  exact⟨λid hid=>Nat.le_trans (Nat.le_of_lt (qan (Nat.lt_add_one i))) (h1 id hid),h2⟩
 |.cm _ _::ps,i=>by
  obtain⟨h1,h2⟩:=qaU (ps:=ps) (i:=i+1)
  have hlt:pid i<pid (i+1):=qan (Nat.lt_add_one i)
  refine⟨λid hid=>?_,List.nodup_cons.2 ⟨λhm=>?_,h2⟩⟩
  ·rcases List.mem_cons.1 hid with rfl|hid
   ·exact Nat.le_refl _
   ·exact Nat.le_trans (Nat.le_of_lt hlt) (h1 id hid)
  ·have:=h1 _ hm;omega
theorem qay(hs:qg P C s a w H Φ){Hf:FH}(hle:H.le Hf){w0:World}{H0:FH}:∀{ps:List jT} {i:Nat} {d:PDens ps} {vs:List Value} {Φs:List qB} {md:MDens ps},jP P w0 H0 ps d vs Φs->
  (∀x∈j9 ps Φs i,(Φ x.1).b=x.2.b/\(Φ x.1).hdr=x.2.hdr)->jA s ps i=some md->∃Φs',jK P w Hf ps md vs Φs'/\qd Φs'=(qaA ps i).flatMap (λid=>(Φ id).fp)/\∀id∈qaA ps i,∃o,s.obj id=some o
 |[],i,d,vs,Φs,md,ha,_,h=>by
  obtain⟨rfl,rfl⟩:=ha
  exact⟨[],⟨rfl,rfl⟩,rfl,by simp[qaA]⟩
 |.v τ::ps,i,d,vs,Φs,md,ha,hp,h=>by
  obtain⟨v,vs',φ,Φs',rfl,rfl,_,_,_,ha⟩:=ha
  obtain⟨Ψ,h1,h2,h3⟩:=qay hs hle (i:=i+1) ha hp h
  exact⟨qw::Ψ,⟨v,vs',qw,Ψ,rfl,rfl,rfl,h1⟩,by simpa[qd,qw,qaA]using h2,h3⟩
 |.r τ::ps,i,d,vs,Φs,md,ha,hp,h=>by
  obtain⟨v,vs',φ,Φs',rfl,rfl,_,_,_,ha⟩:=ha
  obtain⟨Ψ,h1,h2,h3⟩:=qay hs hle (i:=i+1) ha hp h
  exact⟨qw::Ψ,⟨v,vs',qw,Ψ,rfl,rfl,rfl,h1⟩,by simpa[qd,qw,qaA]using h2,h3⟩
 |.c _::ps,i,d,vs,Φs,md,ha,hp,h=>by
  obtain⟨v,vs',φ,Φs',rfl,rfl,_,_,_,ha⟩:=ha
  obtain⟨Ψ,h1,h2,h3⟩:=qay hs hle (i:=i+1) ha hp h
  exact⟨qw::Ψ,⟨v,vs',qw,Ψ,rfl,rfl,rfl,h1⟩,by simpa[qd,qw,qaA]using h2,h3⟩
 |.m τ::ps,i,d,vs,Φs,md,ha,hp,h=>by
  obtain⟨v,vs',φ,Φs',rfl,rfl,hv,_,ha⟩:=ha
  simp only[jA]at h
  split at h
  case h_2=>cases h
  rename_i o ho
  obtain⟨row,σ,x0⟩:=o
  cases row with
  |true=>cases h
  |false=>
  simp only[cond_false]at h
  split at h
  case h_2=>cases h
  rename_i x d' hx hd'
  cases h
  obtain⟨e1,hx⟩:=qf hx
  subst e1
  subst hx
  obtain⟨Ψ,h1,h2,h3⟩:=qay hs hle (i:=i+1) ha (λx hx=>hp x (List.mem_cons_of_mem _ hx)) hd'
  have hb:=(hp (pid i,φ) List.mem_cons_self).1
  simp only at hb
  refine⟨Φ (pid i)::Ψ,⟨v,vs',_,Ψ,rfl,rfl,by rw[hb];exact hv,(hs.os _ _ ho).1.frame hle (λ_ _=>rfl),h1⟩,by simpa[qd,qaA]using h2,?_⟩
  intro id hid
  rcases List.mem_cons.1 hid with rfl|hid
  ·exact⟨_,ho⟩
  ·exact h3 id hid
 |.mr tid e::ps,i,d,vs,Φs,md,ha,hp,h=>by
  obtain⟨v,vs',φ,Φs',rfl,rfl,hv,_,ha⟩:=ha
  simp only[jA]at h
  split at h
  case h_2=>cases h
  rename_i o ho
  obtain⟨row,σ,x0⟩:=o
  cases row with
  |false=>cases h
  |true=>
  simp only[cond_true]at h
  split at h
  case h_2=>cases h
  rename_i x d' hx hd'
  cases h
  obtain⟨e1,hx⟩:=qf hx
  subst e1
  subst hx
  obtain⟨Ψ,h1,h2,h3⟩:=qay hs hle (i:=i+1) ha (λx hx=>hp x (List.mem_cons_of_mem _ hx)) hd'
  have hb:=(hp (pid i,φ) List.mem_cons_self).2
  simp only at hb
  refine⟨Φ (pid i)::Ψ,⟨v,vs',_,Ψ,rfl,rfl,by rw[hb];exact hv,(hs.os _ _ ho).1.frame hle (λ_ _=>rfl),h1⟩,by simpa[qd,qaA]using h2,?_⟩
  intro id hid
  rcases List.mem_cons.1 hid with rfl|hid
  ·exact⟨_,ho⟩
  ·exact h3 id hid
 |.t tid e::ps,i,d,vs,Φs,md,ha,hp,h=>by
  obtain⟨v,vs',φ,Φs',rfl,rfl,_,_,ha⟩:=ha
  obtain⟨Ψ,h1,h2,h3⟩:=qay hs hle (i:=i+1) ha (λx hx=>hp x (List.mem_cons_of_mem _ hx)) h
  exact⟨qw::Ψ,⟨v,vs',qw,Ψ,rfl,rfl,rfl,h1⟩,by simpa[qd,qw,qaA]using h2,h3⟩
 |.gm _::ps,i,d,vs,Φs,md,ha,hp,h=>by
  obtain⟨v,vs',φ,Φs',rfl,rfl,_,_,ha⟩:=ha
  obtain⟨Ψ,h1,h2,h3⟩:=qay hs hle (i:=i+1) ha (λx hx=>hp x (List.mem_cons_of_mem _ hx)) h
  exact⟨qw::Ψ,⟨v,vs',qw,Ψ,rfl,rfl,rfl,h1⟩,by simpa[qd,qw,qaA]using h2,h3⟩
 |.cm f τ::ps,i,d,vs,Φs,md,ha,hp,h=>by
  obtain⟨v,vs',φ,Φs',rfl,rfl,hv,_,ha⟩:=ha
  simp only[jA]at h
  split at h
  case h_2=>cases h
  rename_i o ho
  obtain⟨row,σ,x0⟩:=o
  cases row with
  |true=>cases h
  |false=>
  simp only[cond_false]at h
  split at h
  case h_2=>cases h
  rename_i x d' hx hd'
  cases h
  obtain⟨e1,hx⟩:=qf hx
  subst e1
  subst hx
  obtain⟨Ψ,h1,h2,h3⟩:=qay hs hle (i:=i+1) ha (λx hx=>hp x (List.mem_cons_of_mem _ hx)) hd'
  have hb:=(hp (pid i,φ) List.mem_cons_self).1
  simp only at hb
  refine⟨Φ (pid i)::Ψ,⟨v,vs',_,Ψ,rfl,rfl,by rw[hb];exact hv,(hs.os _ _ ho).1.frame hle (λ_ _=>rfl),h1⟩,by simpa[qd,qaA]using h2,?_⟩
  intro id hid
  rcases List.mem_cons.1 hid with rfl|hid
  ·exact⟨_,ho⟩
  ·exact h3 id hid
def qgn(gh:Nat->Option Value)(w:World)(H:FH)(nt:Nat)(ps:List jT)(Φs:List qB):Ctx:=⟨w,(· ∈qd Φs),H,nt,lk (j9 ps Φs 0),[],gh⟩
theorem fin_ok(hcfg:qu P cfg){gh:Nat->Option Value}{fn:Func}{p:jE}{d:PDens p.ps}{y:RDens p.rs×MDens p.ps}{vs:List Value}{Φs:List qB}(hargs:jP P w H p.ps d vs Φs){a':Act}{w':World}{H2:FH}{Φ2:Nat->qB}
  (hs:qg P (qgn gh w H cfg.nt p.ps Φs) s a' w' H2 Φ2) (h:qfp cfg fn p.ps p.rs .ret s=some y):
  a'.defers=[]/\∃v,(results fn a'.tmps).run P w' = .ok v w'/\∃us H' Φs' Ψs,Ending.returned v = .returned (qap us)/\jM (· ∈qd Φs) w w'/\H.le H'/\HOk H' w'/\(∀b c,H' b=some c->H b=some c\/b∈qd Φs\/w.heap.size<=b)/\
    qal P w' H' p.rs y.1 us Ψs/\jK P w' H' p.ps y.2 vs Φs'/\(qd (Ψs++Φs')).Nodup/\∀b∈qd (Ψs++Φs'),H' b=none/\(b∈qd Φs\/w.heap.size<=b)/\b<w'.heap.size:=by
 obtain⟨_,_,_,h4,_⟩:=qaO (C:=qbG w H cfg.nt p.ps Φs) 0 hargs
 simp only[qfp]at h
 split at h
 case h_2=>cases h
 rename_i md hmd
 obtain⟨T,hand,t1,t2,t3,t4⟩:=qd7 hcfg hs h
 obtain⟨Hf,m1,m2,m3,m4,m5⟩:=qg.freezeAll T hs
 obtain⟨d',us,Ψs,g1,g2,g3,g4,g5⟩:=t4 Hf m1 m3
 cases g1
 obtain⟨Φs',k1,k2,k3⟩:=qay hs m1 (i:=0) hargs (λx hx=>by
  obtain⟨id,φ⟩:=x
  have hpin:(qgn gh w H cfg.nt p.ps Φs).pin id=some φ:=qfn h4 hx
  exact hs.pins.1 id φ hpin) hmd
 have hids:=qaU (ps:=p.ps) (i:=0)
 have hfapp:qd (Ψs++Φs')=qd Ψs++qd Φs':=by simp[qd]
 have hobj:∀id,id∉T->∀o,s.obj id=some o->∀b∈(Φ2 id).fp,Hf b=none/\(b∈qd Φs\/w.heap.size<=b)/\b<w'.heap.size:=by
  intro id hid o ho b hb'
  obtain⟨q1,q2,q3⟩:=(hs.os id o ho).2 b hb'
  refine⟨?_,q2,q3⟩
  cases hq:Hf b with
  |none=>rfl
  |some c=>
   rcases m2 b c hq with h1|⟨j,hj,o',ho',hbj⟩
   ·rw[q1]at h1;cases h1
   ·exact absurd hbj (hs.disj id j o o' (by rintro rfl;exact hid hj) ho ho' b hb')
 refine⟨hs.defers,_,qeA g2,us,Hf,Φs',Ψs,rfl,hs.mod,FH.le_trans hs.le m1,m4.hok,m4.hnew,g3,k1,?_,?_⟩
 ·rw[hfapp,List.nodup_append]
  refine⟨g4,?_,?_⟩
  ·rw[k2]
   refine qa8 hids.2 (λid hid=>?_) (λi hi j hj hij b hb'=>?_)
   ·obtain⟨o,ho⟩:=k3 id hid
    exact(hs.os id o ho).1.2.1
   ·obtain⟨o,ho⟩:=k3 i hi
    obtain⟨o',ho'⟩:=k3 j hj
    exact hs.disj i j o o' hij ho ho' b hb'
  ·rintro b hb1 _ hb2 rfl
   obtain⟨i,hi,o,ho,hbi⟩:=g5 b hb1
   rw[k2]at hb2
   obtain⟨j,hj,hbj⟩:=List.mem_flatMap.1 hb2
   obtain⟨o',ho'⟩:=k3 j hj
   exact hs.disj i j o o' (by rintro rfl;exact(t3 i hi).1 hj) ho ho' b hbi hbj
 ·intro b hb'
  rw[hfapp]at hb'
  rcases List.mem_append.1 hb' with hb1|hb2
  ·obtain⟨i,hi,o,ho,hbi⟩:=g5 b hb1
   exact hobj i (t3 i hi).2 o ho b hbi
  ·rw[k2]at hb2
   obtain⟨j,hj,hbj⟩:=List.mem_flatMap.1 hb2
   obtain⟨o',ho'⟩:=k3 j hj
   exact hobj j (λhT=>t1 j hT hj) o' ho' b hbj
theorem fn_sound(hm:P.follows .mixedOrders=true)(hcfg:qu P cfg){f:FuncId}{fn:Func}{c:Code}(hf:P.funcs[f]? = some fn)(hb:fn.body=some c)(hnt:fn.ntmps=cfg.nt)(hl:qax cfg c)(hd:qD cfg c=true)
  {p:jE} (hps:p.ps.length<=cfg.nt) (hg:∀d y,p.g d=some y->∃n,jC cfg n fn c p.ps p.rs d=some y):qj8 P f p:=by
 intro d y hy w H vs Φs hok hargs hnd hfr
 obtain⟨n,hn⟩:=hg d y hy
 refine calls_of_wp hf hb ?_
 rw[hnt]
 have hsim:=qd2 hok hargs hnd hfr hps
 have hC:=qe9 (cfg:=cfg) hargs
 refine wp_mono (qdc hm hcfg hC c hl hd ⟨H,_,hsim,trivial⟩ hn) ?_
 have fin:∀(s:St) (a':Act) (w':World),Sim P (qbG w H cfg.nt p.ps Φs) s a' w'->qfp cfg fn p.ps p.rs .ret s=some y->
   a'.defers=[]/\∃v,(results fn a'.tmps).run P w' = .ok v w'/\∃us H' Φs' Ψs,Ending.returned v = .returned (qap us)/\jM (· ∈qd Φs) w w'/\H.le H'/\HOk H' w'/\(∀b c,H' b=some c->H b=some c\/b∈qd Φs\/w.heap.size<=b)/\
    qal P w' H' p.rs y.1 us Ψs/\jK P w' H' p.ps y.2 vs Φs'/\(qd (Ψs++Φs')).Nodup/\∀b∈qd (Ψs++Φs'),H' b=none/\(b∈qd Φs\/w.heap.size<=b)/\b<w'.heap.size:=by
  rintro s a' w' ⟨H2,Φ2,hs⟩ h
  exact fin_ok (gh:=λ_=>none) hcfg hargs hs h
 intro e a' w' hp
 cases e with
 |normal=>obtain⟨s,hs,h⟩:=hp;exact fin s a' w' hs.sim h
 |ret=>obtain⟨s,hs,h⟩:=hp;exact fin s a' w' hs.sim h
 |exit i=>obtain⟨s,hs,h⟩:=hp;cases h
 |_=>exact hp.elim
theorem qY{f:FuncId}{fn:Func}{c:Code}(hf:P.funcs[f]? = some fn)(hb:fn.body=some c)(hn:(fn.name == "runtime.NumGoroutine")=false):qW P f:=⟨fn,hf,hn,by rw[hb];rfl⟩
end
end Go.Vi
namespace Go.Vi
theorem nilK_of{R:Type}{n:Nat}{k:Bool->Option R}{r:R}(h1:n=0->k true=some r)(h2:k false=some r):nilK n k=some r:=by
 unfold nilK
 cases h:Nat.beq n 0 with
 |true=>exact qm3 true trivial (λb _=>match b with
  |true=>h1 (Nat.eq_of_beq_eq_true h)
  |false=>h2)
 |false=>exact h2
def qn:Nat:=18446744073709551616
def qcE{α R:Type}(x:α)(k:α->Option R):Option R:=k x
theorem qag{R:Type}(x:Option R):qc [x]=x:=by
 cases x with
 |some r=>exact qol (λy hy=>List.mem_singleton.1 hy)
 |none=>
  cases h:qc [(none:Option R)]with
  |none=>rfl
  |some r=>exact(qhu h none (List.mem_singleton.2 rfl)).symm
theorem qaf{R:Type}(x:Option R)(l:List (Option R)):qc (x::x::l)=qc (x::l):=by
 unfold qc
 congr 1
 funext y
 simp
def qbA{α R:Type}(x:α)(k:α->Option R):Option R:=k x
def body(f:Func):Code:=match f.body with|some c=>c|none=>.skip
def qj:Code->List Code
 |.seq a b=>qj a++qj b
 |.cond _ a b=>qj a++qj b
 |.block _ c=>qj c
 |.loop c=>c::qj c
 |_=>[]
def nth(i:Nat)(l:List Code):Code:=match l[i]? with|some c=>c|none=>.skip
def qcZ(cfg:jG)(b:Code):Prop:=(∀key li,qat b=some key->lk cfg.loops key=some li->LoopEq cfg li b)/\∀key lw,qat b=some key->lk cfg.loops key=none->lk cfg.wloops key=some lw->qnG cfg lw b
theorem jB{cfg:jG}{b:Code}{key:Nat}{li:j7}(h1:qat b=some key)(h2:lk cfg.loops key=some li)(h3:∀d,li.g 0 d=none)(h4:∀n d,li.g (n+1) d=run cfg n b (li.ins.fill d) (jH li n)):qcZ cfg b:=by
 refine⟨?_,?_⟩
 ·intro key' li' e1 e2
  rw[h1]at e1
  cases e1
  rw[h2]at e2
  cases e2
  exact⟨h3,h4⟩
 ·intro key' lw' e1 e2
  rw[h1]at e1
  cases e1
  rw[h2]at e2
  cases e2
theorem loopHasW{cfg:jG}{b:Code}{key:Nat}{lw:ql9}(h1:qat b=some key)(h0:lk cfg.loops key=none)(h2:lk cfg.wloops key=some lw)(h3:∀d S,lw.w 0 d S=none)(h4:∀n d S,lw.w (n+1) d S=run cfg n b (lw.ins.fill d) (qcL lw n S)):qcZ cfg b:=by
 refine⟨?_,?_⟩
 ·intro key' li' e1 e2
  rw[h1]at e1
  cases e1
  rw[h0]at e2
  cases e2
 ·intro key' lw' e1 _ e2
  rw[h1]at e1
  cases e1
  rw[h2]at e2
  cases e2
  exact⟨h3,h4⟩
theorem qT{cfg:jG}{c:Code}(h:qj c=[]):∀b∈qj c,qcZ cfg b:=by
 intro b hb
 rw[h]at hb
 cases hb
theorem qbh{cfg:jG}:∀{c:Code},(∀b∈qj c,qcZ cfg b)->qax cfg c
 |.seq _a _b,h=>⟨qbh λx hx=>h x (List.mem_append.2 (.inl hx)),qbh λx hx=>h x (List.mem_append.2 (.inr hx))⟩
 |.cond _ _a _b,h=>⟨qbh λx hx=>h x (List.mem_append.2 (.inl hx)),qbh λx hx=>h x (List.mem_append.2 (.inr hx))⟩
 |.block _ c,h=>qbh (c:=c) h
 |.loop c,h=>⟨qbh λx hx=>h x (List.mem_cons_of_mem _ hx),h c List.mem_cons_self⟩
 |.skip,_=>trivial
 |.region _ _ _,_=>trivial
 |.rangeFunc _ _ _ _,_=>trivial
 |.exit _,_=>trivial
 |.scope _,_=>trivial
 |.label _,_=>trivial
 |.goto _,_=>trivial
 |.ret,_=>trivial
 |.refuse _,_=>trivial
def qZ(P:Program)(f:Nat)(p:jE):Prop:=qW P f/\qj8 P f p
def qeY(P:Program)(l:List (Nat×jE)):Prop:=∀x∈l,qZ P x.1 x.2
theorem qC{P:Program}:qeY P []:=by intro x hx;cases hx
theorem qo{P:Program}{f:Nat}{p:jE}{l:List (Nat×jE)}(h:qZ P f p)(hl:qeY P l):qeY P ((f,p)::l):=by
 intro x hx
 rcases List.mem_cons.1 hx with rfl|hx
 ·exact h
 ·exact hl x hx
def mapB(P:Program)(x:Nat×Nat×Nat):Bool:=
 (match P.underlying x.1 with|some (.map k e)=>Nat.beq k x.2.1&&Nat.beq e x.2.2|_=>false)&&(tyB P (.int .i64)).1 x.2.1&&(tyB P (.int .i64)).1 x.2.2
def tysB(P:Program)(l:List (Nat×Ty)):Bool:=l.all λx=>(tyB P x.2).1 x.1&&x.2.isFz
theorem qL{P:Program}{cfg:jG}(hty:tysB P cfg.ty=true)(hp:qeY P cfg.prims)(hs:Nat.ble cfg.nt 2000=true)(hmap:cfg.maps.all (mapB P)=true)(hmk:∀f m,lk cfg.makers f=some m->qW P f/\qeU P f m:=by intro _ _ h;cases h)(hal:qeY P cfg.alts:=by intro _ h;cases h)(hkp:∀f m,lk cfg.keeps f=some m->qW P f/\qfV P f m:=by intro _ _ h;cases h)(hma:∀f m,lk cfg.mas f=some m->qW P f/\qnc P f m:=by intro _ _ h;cases h)(hse:∀sp,cfg.self=some sp->qW P sp.f/\SoundL P sp/\qhK P sp.T=true:=by intro _ h;cases h)(hin:∀d il,lk cfg.inl d=some il->SoundI P d il:=by intro _ _ h;cases h)(hky:∀i,jY i cfg.xkeys=true->KeyP P i:=by intro _ h;cases h)(hqu:∀q,cfg.xque=some q->XqOK P q:=by intro _ h;cases h)(hso:∀q,cfg.xsort=some q->XsOK P q:=by intro _ h;cases h):qu P cfg:=by
 refine⟨λt τ h=>?_,λf p h=>hp (f,p) (qbC h),λf p h=>hal (f,p) (qbC h),Nat.le_of_ble_eq_true hs,hmk,λT kt vt h=>?_,hkp,hma,hse,hin,hky,hqu,hso⟩
 ·have:=List.all_eq_true.1 hty (t,τ) (qbC h)
  rw[Bool.and_eq_true]at this
  exact this
 ·have:=List.all_eq_true.1 hmap (T,kt,vt) (qbC h)
  unfold mapB at this
  rw[Bool.and_eq_true,Bool.and_eq_true]at this
  obtain⟨⟨h1,h2⟩,h3⟩:=this
  refine⟨?_,h2,h3⟩
  simp only at h1
  split at h1
  ·rename_i k e hu
   rw[Bool.and_eq_true]at h1
   rw[hu,Nat.eq_of_beq_eq_true h1.1,Nat.eq_of_beq_eq_true h1.2]
  ·cases h1
theorem qmR{P:Program}{i:Nat}(h:KeyP P i):∀j,jY j [i]=true->KeyP P j:=by
 intro j hj
 have hj:(Nat.beq i j||false)=true:=hj
 rw[Bool.or_false]at hj
 rw[<-Nat.eq_of_beq_eq_true hj]
 exact h
theorem qms{P:Program}{q:XQ}(h:XqOK P q):∀q',some q=some q'->XqOK P q':=by
 intro q' e
 cases e
 exact h
theorem sortOne{P:Program}{q:XS}(h:XsOK P q):∀q',some q=some q'->XsOK P q':=by
 intro q' e
 cases e
 exact h
theorem qnA{P:Program}{cfg:jG}(hm:P.follows .mixedOrders=true)(hcfg:qu P cfg){f:FuncId}{fn:Func}(hf:P.funcs[f]? = some fn)(hb:fn.body.isSome=true)(hnt:fn.ntmps=cfg.nt)(hname:(fn.name == "runtime.NumGoroutine")=false)
  {p:jE} (hps:Nat.ble p.ps.length cfg.nt=true) (hl:∀b∈qj (body fn),qcZ cfg b) (hd:qD cfg (body fn)=true) (hg:∀d y,p.g d=some y->∃n,jC cfg n fn (body fn) p.ps p.rs d=some y):qZ P f p:=by
 have hb2:fn.body=some (body fn):=by
  unfold body
  cases h:fn.body with
  |none=>rw[h]at hb;cases hb
  |some c=>rfl
 exact⟨qY hf hb2 hname,fn_sound hm hcfg hf hb2 hnt (qbh hl) hd (Nat.le_of_ble_eq_true hps) hg⟩
end Go.Vi
namespace Go.Vi
open Go.Proofs Go.Shelf Go.Sort
section
variable {P:Program} {ρ:Ren}
theorem qhr{w:World}{H:FH}:∀{l:List Int} {xs:List Value} {fp:List Nat},qe (qm P (.int .i64) w H) l xs fp->xs=l.map (Value.int .i64)/\fp=[]
 |[],_,_,⟨e,e'⟩=>⟨e,e'⟩
 |_::l,_,_,⟨c,xs',f,fp',e1,e2,h1,h2⟩=>by
  obtain⟨h3,h4⟩:=qhr h2
  rw[e1,e2,h3,h4,h1.1,h1.2]
  exact⟨rfl,rfl⟩
theorem qhj(w:World)(H:FH):∀(l:List Int),qe (qm P (.int .i64) w H) l (l.map (Value.int .i64)) []
 |[]=>⟨rfl,rfl⟩
 |x::l=>⟨[.int .i64 x],l.map (Value.int .i64),[],[],rfl,rfl,⟨rfl,rfl⟩,qhj w H l⟩
theorem qeD{α:Type}[Inhabited α](enc:α->Value)(w:World)(g:Nat)(d:Array α){cur:Array Value}{t:TypeId}{f:Nat×Nat}(hg:w.heap[g]? = some (.cells cur t f)):
  (putRow enc w g 0 d).heap[g]? = some (.cells (putCells enc 0 d cur) t f)/\∀k,k≠g->(putRow enc w g 0 d).heap[k]? = w.heap[k]?:=by
 unfold putRow mapBlock
 refine⟨?_,λk hk=>?_⟩
 ·simp only[Array.getElem?_modify,if_true,hg,Option.map_some]
  rfl
 ·simp only[Array.getElem?_modify]
  rw[if_neg (λe=>hk e.symm)]
theorem qjh{cur:Array Value}(l:List Int)(h:l.length<=cur.size):(putCells (Value.int .i64) 0 l.toArray cur).toList.take l.length=l.map (Value.int .i64):=by
 apply List.ext_getElem?
 intro k
 rw[List.getElem?_take]
 by_cases hk:k<l.length
 ·rw[if_pos hk]
  have h1:k<cur.size:=by omega
  simp[putCells,hk,h1,Nat.sub_zero]
 ·rw[if_neg hk]
  rw[List.getElem?_eq_none (by simpa using hk)]
theorem qkh(L:Lays.n112 P ρ)(hcal:qW P (ρ.f 112))(tid:Nat):qZ P (ρ.f 112) ⟨[.mr tid (.int .i64)],[],λd=>some ((),(d.1.reverse,()))⟩:=by
 refine⟨hcal,?_⟩
 intro d y hy w H vs Φs hok hargs hnd hfr
 cases hy
 obtain⟨v,vs',φ,Φs',rfl,rfl,hv,hobj,hrest⟩:=hargs
 obtain⟨rfl,rfl⟩:=hrest
 obtain⟨l,u⟩:=d
 simp only at hobj ⊢
 obtain⟨hdr,xs,fp',e1,e2,ho,hch⟩:=hobj.row_list
 obtain⟨hx,rfl⟩:=qhr hch
 subst hx
 have e1:φ.hdr=hdr:=by simpa using e1
 have hn:=hobj.1
 have hndf:=hobj.2.1
 have hfps:qd [φ]=φ.fp:=by simp[qd]
 rw[hfps]at hfr
 rcases ho.2 with⟨hv0,hz⟩|⟨g,cap,cur,hv1,_,hg,h1,h2,h3,h4⟩
 ·have hl:l=[]:=List.eq_nil_of_length_eq_zero hz
  subst hl
  have hvv:v = .slice none 0 0:=by rw[hv,e1,hv0]
  have hc:=Go.Proofs.Any.slices_Reverse_int_empty L none 0 w
  rw[hvv]
  refine hc.mono ?_
  rintro e w' ⟨he,rfl⟩
  refine⟨[],H,[φ],[],he,jM.refl _ _,FH.le_refl _,hok,λ_ _ h=>.inl h,⟨rfl,rfl⟩,⟨_,[],φ,[],rfl,rfl,by rw[<-hvv];exact hv,hobj,rfl,rfl⟩,by simpa[hfps]using hndf,λb hb=>?_⟩
  have hb':b∈φ.fp:=by simpa[hfps]using hb
  exact⟨(hfr b hb').1,.inl (by rw[hfps];exact hb'),(hfr b hb').2⟩
 ·have hvv:v = .slice (some ⟨g,0,none⟩) l.length cap:=by rw[hv,e1,hv1]
  have hfp:φ.fp=[g]:=by rw[e2,hv1];simp[Value.ownBlock]
  have hsz:cur.size=cap:=by rw[h3];exact Nat.mul_one _
  have hlen:l.length<=cur.size:=by omega
  have htk:cur.toList.take l.length=l.map (Value.int .i64):=by
   have:=h4
   rwa[show l.length*(Ty.int IntKind.i64).size=l.length from Nat.mul_one _]at this
  have hH:Holds (Value.int .i64) w g 0 l.toArray:=by
   intro j hj
   have hj:j<l.length:=by simpa using hj
   refine⟨?_,?_⟩
   ·rw[qy hg,Nat.zero_add,<-Array.getElem?_toList]
    have:=congrArg (·[j]?) htk
    simp only[List.getElem?_take,hj,if_true,List.getElem?_map]at this
    rw[this]
    simp[hj]
   ·simp[World.frozen?,hg]
  have hc:=Go.Proofs.Any.slices_Reverse_int L g 0 cap l w hH (by unfold maxLen at h2;omega)
  rw[hvv]
  refine hc.mono ?_
  rintro e w' ⟨he,n,rfl⟩
  have hg':(Sort.ahead w n).heap[g]? = some (.cells cur tid (0,0)):=hg
  obtain⟨q1,q2⟩:=qeD (Value.int .i64) (Sort.ahead w n) g l.reverse.toArray hg'
  have hsize:(putRow (Value.int .i64) (Sort.ahead w n) g 0 l.reverse.toArray).heap.size=w.heap.size:=by simp[putRow,mapBlock,Sort.ahead]
  have hmod:jM (· ∈qd [φ]) w (putRow (Value.int .i64) (Sort.ahead w n) g 0 l.reverse.toArray):=by
   refine⟨rfl,rfl,rfl,by omega,λk _ hk=>?_⟩
   exact q2 k (by rintro rfl;exact hk (by rw[hfps,hfp];simp))
  have hobj':qK P (putRow (Value.int .i64) (Sort.ahead w n) g 0 l.reverse.toArray) H ⟨true,.list true tid (.int .i64),l.reverse⟩ φ:=by
   refine qK.of_list hn hndf ⟨φ.hdr,l.reverse.map (Value.int .i64),[],rfl,by rw[e1];simpa using e2,⟨by simp[Ty.size],.inr ⟨g,cap,putCells (Value.int .i64) 0 l.reverse.toArray cur,by rw[e1,hv1];simp,Nat.zero_le _,q1,by simpa using h1,h2,?_,?_⟩⟩,qhj _ _ _⟩
   ·simp[putCells,h3]
   ·have:=qjh (cur:=cur) l.reverse (by simpa using hlen)
    simpa[Ty.size]using this
  refine⟨[],H,[φ],[],he,hmod,FH.le_refl _,hok.mod hmod (λb hb=>(hfr b (by rw[hfps]at hb;exact hb)).1),λ_ _ h=>.inl h,⟨rfl,rfl⟩,⟨_,[],φ,[],rfl,rfl,by rw[<-hvv];exact hv,hobj',rfl,rfl⟩,by simpa[hfps]using hndf,λb hb=>?_⟩
  have hb':b∈φ.fp:=by simpa[hfps]using hb
  exact⟨(hfr b hb').1,.inl (by rw[hfps];exact hb'),by rw[hsize];exact(hfr b hb').2⟩
end
end Go.Vi
namespace Go.Vi
open Go.ChangeShapes Go.WideShapes Go.ChangeAt Go.RowKit Go.WideElems Go.Proofs.Ytmlocmhkfnojbaa
def Ty.plain:Ty->Bool
 |.int _=>true
 |.bool=>true
 |.list own _ e=>!own&&e.plain
 |.pair a b=>a.plain&&b.plain
 |.str t=>t.plain
 |_=>false
def WfD:(τ:Ty)->τ.den->Prop
 |.int k,x=>k.min<=x/\x<=k.max
 |.list _ _ e,l=>∀y∈l,WfD e y
 |.pair a b,x=>WfD a x.1/\WfD b x.2
 |.str t,x=>WfD t x
 |_,_=>True
def qeR:(τ:Ty)->τ.den->Nat
 |.list _ _ e,l=>(l.map (qeR e)).sum+1
 |.pair a b,x=>qeR a x.1+qeR b x.2
 |.str t,x=>qeR t x+1
 |_,_=>1
def qfu:(ps:List jT)->PDens ps->Prop
 |[],_=>True
 |.v τ::ps,d=>WfD τ d.1/\qfu ps d.2
 |.r _::ps,d=>qfu ps d.2
 |.c _::ps,d=>qfu ps d.2
 |.m _::ps,d=>qfu ps d.2
 |.mr _ _::ps,d=>qfu ps d.2
 |.t _ _::ps,d=>qfu ps d.2
 |.gm _::ps,d=>qfu ps d.2
 |.cm _ _::ps,d=>qfu ps d.2
def qce:(ps:List jT)->PDens ps->Nat
 |[],_=>0
 |.v τ::ps,d=>qeR τ d.1+qce ps d.2
 |.r _::ps,d=>qce ps d.2
 |.c _::ps,d=>qce ps d.2
 |.m _::ps,d=>qce ps d.2
 |.mr _ _::ps,d=>qce ps d.2
 |.t _ _::ps,d=>qce ps d.2
 |.gm _::ps,d=>qce ps d.2
 |.cm _ _::ps,d=>qce ps d.2
def qb3(P:Program):List jT->List TypeId->Bool
 |[],[]=>true
 |.v τ::ps,t::ts=>τ.plain&&τ.isFz&&(tyB P τ).1 t&&P.readableRec t&&Nat.blt t P.types.size&&qb3 P ps ts
 |_,_=>false
def allH(w:World):FH:=λb=>match w.heap[b]? with
 |some (.cells c _ _)=>some (.cells c)
 |_=>none
theorem allH_ok(w:World):HOk (allH w) w:=by
 intro b c h
 unfold allH at h
 split at h
 ·rename_i c' t f e;cases h;exact⟨t,f,e⟩
 ·cases h
section
variable {H:Type} {enc:TypeId×Value->H} {P:Program} {W:World}
theorem qjX{a:Addr}{n:Nat}{cs:List Value}(h:W.cells? 0 a n=some cs)(hn:0<n):∃b o blk,a=⟨b,o,none⟩/\allH W b=some (.cells blk)/\cs=seg blk o n/\cs.length=n:=by
 unfold World.cells? at h
 rw[if_pos (Nat.zero_le _)]at h
 have hl:cs.length=n:=by simpa using mapM_some_length h
 have hg:=mapM_some_get h
 have h0:=hg 0 0 (by simp[hn])
 obtain⟨b,o,sp⟩:=a
 have hc:∃c t f,W.heap[b]? = some (.cells c t f)/\sp=none:=by
  simp only[Addr.add,if_true]at h0
  unfold World.cell? at h0
  simp only at h0
  have:cs[0]?≠none:=by rw[List.getElem?_eq_getElem (by omega)];simp
  cases hb:W.heap[b]? with
  |none=>rw[hb]at h0;exact absurd h0.symm this
  |some ob=>
   rw[hb]at h0
   cases ob with
   |cells c t f=>
    cases sp with
    |none=>exact⟨c,t,f,rfl,rfl⟩
    |some u=>simp only[Option.isSome_some,if_true]at h0;exact absurd h0.symm this
   |_=>exact absurd h0.symm this
 obtain⟨c,t,f,hb,rfl⟩:=hc
 refine⟨b,o,c,rfl,by unfold allH;rw[hb],?_,hl⟩
 have hi:∀i,i<n->c[o+i]? = cs[i]?:=by
  intro i hi
  have:=hg i i (by simp[hi])
  have e:(⟨b,o,none⟩:Addr).add i=⟨b,o+i,none⟩:=by
   unfold Addr.add
   split
   ·rename_i e;subst e;rfl
   ·rfl
  rw[e]at this
  rw[<-this]
  simp[World.cell?,hb]
 unfold seg
 apply List.ext_getElem?
 intro i
 rw[List.getElem?_take]
 split
 ·rename_i hlt
  rw[List.getElem?_drop,<-hi i hlt,Array.getElem?_toList]
 ·rename_i hlt
  rw[List.getElem?_eq_none (by omega)]
theorem seg_succ(blk:Array Value)(o z n:Nat):seg blk o ((n+1)*z)=seg blk o z++seg blk (o+z) (n*z):=by
 unfold seg
 rw[show(n+1)*z=z+n*z by rw[Nat.succ_mul,Nat.add_comm],List.take_add,List.drop_drop]
theorem qjV{α:Type}{R:α->List Value->List Nat->Prop}{Q:α->Prop}{g:α->Nat}{blk:Array Value}{z:Nat}:∀{l:List (DataW H)} {o:Nat},(∀(i:Nat) d,l[i]? = some d->∃x,R x (seg blk (o+i*z) z) []/\Q x/\g x<=Rows.uptoBulk d)->
  ∃xs:List α,xs.length=l.length/\qe R xs (seg blk o (xs.length*z)) []/\(∀x∈xs,Q x)/\(xs.map g).sum<=Rows.uptoBulkAll l
 |[],o,_=>⟨[],rfl,⟨by simp[seg],rfl⟩,by simp,by simp⟩
 |d::l,o,h=>by
  obtain⟨x,h1,h2,h3⟩:=h 0 d rfl
  obtain⟨xs,k1,k2,k3,k4⟩:=qjV (R:=R) (Q:=Q) (g:=g) (l:=l) (o:=o+z) (blk:=blk) (z:=z) (λi d hd=>by
   have:=h (i+1) d hd
   rw[show o+(i+1)*z=o+z+i*z by rw[Nat.succ_mul];omega]at this
   exact this)
  refine⟨x::xs,by simp[k1],?_,?_,?_⟩
  ·rw[List.length_cons,seg_succ]
   exact⟨_,_,[],[],rfl,rfl,by simpa using h1,k2⟩
  ·intro y hy
   rcases List.mem_cons.1 hy with rfl|hy
   ·exact h2
   ·exact k3 y hy
  ·simp only[List.map_cons,List.sum_cons,Rows.uptoBulkAll]
   omega
theorem qhc{base:Nat}{spare:Nat->Bool}{held:Bool}:∀{ts:List TypeId} {vs:List Value} {ds:List (DataW H)} {ps:List MemPlace},DataW.TrodAll enc P W base spare held ts vs ds ps->ds.length=ts.length
 |[],_,_,_,h=>by obtain⟨rfl,rfl,_⟩:=trodAll_nil h;rfl
 |_::_,_,_,_,h=>by
  obtain⟨_,_,_,_,_,_,rfl,rfl,_,_,hr⟩:=trodAll_cons h
  rw[List.length_cons,List.length_cons,qhc hr]
theorem qen{t:TypeId}{τ:Ty}(h:qN P t τ):P.cellsOf t=τ.size:=by
 obtain⟨i,hi,hs,_⟩:=h.info
 unfold Program.cellsOf
 rw[hi]
 exact hs
def qdA(P:Program)(W:World)(τ:Ty)(cs:List Value)(n:Nat):Prop:=∃x:τ.den,qm P τ W (allH W) x cs []/\WfD τ x/\qeR τ x<=n
theorem qbT{τ:Ty}(hA:∀ ⦃t:TypeId⦄ ⦃n:Nat⦄ ⦃cs:List Value⦄ ⦃y:DataW H×List MemPlace⦄,qN P t τ->DataW.trod enc P W 0 (λ_=>true) true n t cs=some y->qdA P W τ cs (Rows.uptoBulk y.1))
  {l:List Field} {o n:Nat} {cs:List Value} {xs:List (DataW H×List MemPlace)} (hf:∃x,l=[x]/\x.offset=o/\qN P x.type τ) (hl:xs.length=l.length)
  (h:∀(i:Nat) (f:Field),l[i]? = some f->DataW.trod enc P W 0 (λ_=>true) true n f.type ((cs.drop f.offset).take (P.cellsOf f.type))=xs[i]?):
  qdA P W τ ((cs.drop o).take τ.size) (Rows.uptoBulkAll (xs.map (·.1))):=by
 obtain⟨x,rfl,rfl,ht⟩:=hf
 match xs,hl with
 |[y],_=>
  have:=h 0 x rfl
  rw[qen ht]at this
  obtain⟨v,h1,h2,h3⟩:=hA ht this
  exact⟨v,h1,h2,by simpa[Rows.uptoBulkAll]using h3⟩
theorem qem{τ:Ty}(hp:∀a b,τ≠.pair a b){l:List Field}{o:Nat}(h:j5 P τ l o):∃x,l=[x]/\x.offset=o/\qN P x.type τ:=by
 unfold j5 at h
 match l with
 |[x]=>
  refine⟨x,rfl,?_⟩
  cases τ<;>simp only[tyB,Bool.and_eq_true]at h
  case pair a b=>exact absurd rfl (hp a b)
  all_goals exact⟨Nat.eq_of_beq_eq_true h.1,by unfold qN;simp only[tyB,Bool.and_eq_true];exact h.2⟩
 |[]=>cases τ<;>simp[tyB]at h
 |x::y::r=>
  cases τ<;>simp[tyB]at h
  case pair a b=>exact absurd rfl (hp a b)
theorem qf3:∀(τ:Ty),τ.plain=true->
  (∀ ⦃t:TypeId⦄ ⦃n:Nat⦄ ⦃cs:List Value⦄ ⦃y:DataW H×List MemPlace⦄,qN P t τ->DataW.trod enc P W 0 (λ_=>true) true n t cs=some y->qdA P W τ cs (Rows.uptoBulk y.1))/\
  (∀ ⦃l:List Field⦄ ⦃o n:Nat⦄ ⦃cs:List Value⦄ ⦃xs:List (DataW H×List MemPlace)⦄,j5 P τ l o->xs.length=l.length->
   (∀(i:Nat) (f:Field),l[i]? = some f->DataW.trod enc P W 0 (λ_=>true) true n f.type ((cs.drop f.offset).take (P.cellsOf f.type))=xs[i]?)->
   qdA P W τ ((cs.drop o).take τ.size) (Rows.uptoBulkAll (xs.map (·.1))))
 |.int k,_=>by
  have hA:∀ ⦃t:TypeId⦄ ⦃n:Nat⦄ ⦃cs:List Value⦄ ⦃y:DataW H×List MemPlace⦄,qN P t (.int k)->DataW.trod enc P W 0 (λ_=>true) true n t cs=some y->qdA P W (.int k) cs (Rows.uptoBulk y.1):=by
   intro t n cs y ht h
   obtain⟨x,rfl,rfl,hw⟩:=DataW.trod_int ht.int h
   simp only[Lit.wf,Bool.and_eq_true,decide_eq_true_eq]at hw
   exact⟨x,⟨rfl,rfl⟩,hw,by simp[qeR,Rows.uptoBulk]⟩
  exact⟨hA,λ_ _ _ _ _ hf=>qbT hA (qem (λ_ _ h=>by cases h) hf)⟩
 |.bool,_=>by
  have hA:∀ ⦃t:TypeId⦄ ⦃n:Nat⦄ ⦃cs:List Value⦄ ⦃y:DataW H×List MemPlace⦄,qN P t .bool->DataW.trod enc P W 0 (λ_=>true) true n t cs=some y->qdA P W .bool cs (Rows.uptoBulk y.1):=by
   intro t n cs y ht h
   obtain⟨x,rfl,rfl⟩:=DataW.trod_bool ht.bool h
   exact⟨x,⟨rfl,rfl⟩,trivial,by simp[qeR,Rows.uptoBulk]⟩
  exact⟨hA,λ_ _ _ _ _ hf=>qbT hA (qem (λ_ _ h=>by cases h) hf)⟩
 |.list false tid e,hp=>by
  have ih:=(qf3 e (by simpa[Ty.plain]using hp)).1
  have hA:∀ ⦃t:TypeId⦄ ⦃n:Nat⦄ ⦃cs:List Value⦄ ⦃y:DataW H×List MemPlace⦄,qN P t (.list false tid e)->DataW.trod enc P W 0 (λ_=>true) true n t cs=some y->qdA P W (.list false tid e) cs (Rows.uptoBulk y.1):=by
   intro t n cs y ht h
   obtain⟨hu,he⟩:=ht.list
   have hz:=qen he
   obtain⟨_,_,_,hpos,_⟩:=he.info
   rcases DataW.trod_slice hu h with⟨rfl,rfl⟩|⟨a,len,cap,elems,rest,m,rfl,rfl,rfl,_,hlc,_,hel,hget,_,_⟩
   ·exact⟨([]:List e.den),⟨rfl,none,0,rfl,Nat.le_refl _,.inl rfl⟩,(λy hy=>by cases hy),by simp[qeR,Rows.uptoBulk]⟩
   ·cases len with
    |zero=>
     refine⟨([]:List e.den),⟨rfl,some a,cap,rfl,Nat.zero_le _,.inl rfl⟩,(λy hy=>by cases hy),?_⟩
     simp[qeR,Rows.uptoBulk]
    |succ len=>
     have hne:∀i,i<len+1->∃y,elems[i]? = some y:=λi hi=>⟨_,List.getElem?_eq_getElem (by omega)⟩
     have hc0:∃cs0,W.cells? 0 a e.size=some cs0:=by
      obtain⟨y,hy⟩:=hne 0 (by omega)
      have:=hget 0 (by omega)
      rw[hy,hz]at this
      obtain⟨cs0,h1,_⟩:=Option.bind_eq_some_iff.1 this
      exact⟨cs0,by simpa[Addr.add]using h1⟩
     obtain⟨cs0,hc0⟩:=hc0
     obtain⟨b,o,blk,rfl,hb,_,_⟩:=qjX hc0 hpos
     obtain⟨xs,k1,k2,k3,k4⟩:=qjV (R:=qm P e W (allH W)) (Q:=WfD e) (g:=qeR e) (l:=elems.map (·.1)) (o:=o) (blk:=blk) (z:=e.size) (λi d hd=>by
      rw[List.getElem?_map]at hd
      obtain⟨y,hy,rfl⟩:=Option.map_eq_some_iff.1 hd
      have hi:i<len+1:=by
       have:=(List.getElem?_eq_some_iff.1 hy).1
       omega
      have:=hget i hi
      rw[hy,hz]at this
      obtain⟨cs1,h1,h2⟩:=Option.bind_eq_some_iff.1 this
      obtain⟨b',o',blk',e1,hb',rfl,_⟩:=qjX h1 hpos
      have e2:b'=b/\o'=o+i*e.size:=by
       unfold Addr.add at e1
       split at e1
       ·rename_i e0
        cases e1
        exact⟨rfl,by rw[e0];rfl⟩
       ·cases e1;exact⟨rfl,rfl⟩
      obtain⟨rfl,rfl⟩:=e2
      rw[hb]at hb'
      cases hb'
      exact ih he h2)
     refine⟨xs,⟨rfl,some ⟨b,o,none⟩,cap,?_,?_,.inr ⟨b,o,blk,rfl,hb,k2⟩⟩,k3,?_⟩
     ·rw[k1,List.length_map,hel]
     ·rw[k1,List.length_map,hel];exact hlc
     ·simp only[qeR,Rows.uptoBulk]
      omega
  exact⟨hA,λ_ _ _ _ _ hf=>qbT hA (qem (λ_ _ h=>by cases h) hf)⟩
 |.pair a b,hp=>by
  simp only[Ty.plain,Bool.and_eq_true]at hp
  have iha:=(qf3 a hp.1).1
  have ihb:=(qf3 b hp.2).2
  refine⟨λ_ _ _ _ ht=>ht.not_pair.elim,?_⟩
  intro l o n cs xs hf hl h
  unfold j5 at hf
  match l with
  |[]=>simp[tyB]at hf
  |[x]=>simp[tyB]at hf
  |x::y::r=>
   simp only[tyB,Bool.and_eq_true]at hf
   obtain⟨⟨e1,hx⟩,hr⟩:=hf
   obtain rfl:=Nat.eq_of_beq_eq_true e1
   match xs,hl with
   |z::zs,hl=>
    have h0:=h 0 x rfl
    have hx:qN P x.type a:=hx
    rw[qen hx]at h0
    obtain⟨u,h1,h2,h3⟩:=iha hx h0
    obtain⟨v,k1,k2,k3⟩:=ihb (l:=y::r) (o:=x.offset+a.size) (n:=n) (cs:=cs) (xs:=zs) hr (by simpa using hl) (λi f hi=>h (i+1) f hi)
    refine⟨(u,v),⟨_,_,[],[],?_,rfl,h1,k1⟩,⟨h2,k2⟩,?_⟩
    ·rw[show(Ty.pair a b).size=a.size+b.size from rfl,List.take_add,List.drop_drop]
    ·simp only[qeR,List.map_cons,Rows.uptoBulkAll]
     omega
 |.str s,hp=>by
  have ih:=(qf3 s (by simpa[Ty.plain]using hp)).2
  have hA:∀ ⦃t:TypeId⦄ ⦃n:Nat⦄ ⦃cs:List Value⦄ ⦃y:DataW H×List MemPlace⦄,qN P t (.str s)->DataW.trod enc P W 0 (λ_=>true) true n t cs=some y->qdA P W (.str s) cs (Rows.uptoBulk y.1):=by
   intro t n cs y ht h
   obtain⟨fs,hu,hf⟩:=ht.str
   obtain⟨xs,m,rfl,rfl,hl,hx,hget⟩:=DataW.trod_struct hu h
   obtain⟨v,h1,h2,h3⟩:=ih (l:=fs.toList) (o:=0) (n:=m) (cs:=cs) (xs:=xs) hf (by simpa using hx) (λi f hi=>hget i f (by simpa using hi))
   have hsz:cs.length=s.size:=by rw[hl,qen ht];rfl
   refine⟨v,?_,h2,?_⟩
   ·have e:(cs.drop 0).take s.size=cs:=by rw[List.drop_zero,<-hsz,List.take_length]
    rw[e]at h1
    exact h1
   ·simp only[qeR,Rows.uptoBulk]
    omega
  exact⟨hA,λ_ _ _ _ _ hf=>qbT hA (qem (λ_ _ h=>by cases h) hf)⟩
 |.list true _ _,h=>by simp[Ty.plain]at h
 |.ptr _,h=>by cases h
 |.op _,h=>by cases h
 |.arr _ _,h=>by cases h
 |.fn _ _,h=>by cases h
 |.fn2 _ _ _,h=>by cases h
 |.ext _ _ _ _,h=>by cases h
theorem toV_of{t:TypeId}{τ:Ty}(hp:τ.plain=true)(ht:qN P t τ){r:Reach}{b0:Nat}{v:Value}(h:Value.okWide P W r b0 t v):v=jZ τ v.cells.toList:=by
 cases τ with
 |int k=>obtain⟨n,rfl⟩:=okWide_int ht.int h;rfl
 |bool=>obtain⟨n,rfl⟩:=okWide_bool ht.bool h;rfl
 |list own tid e=>obtain⟨a,l,c,rfl⟩:=okWide_slice ht.list.1 h;rfl
 |pair a b=>exact ht.not_pair.elim
 |str s=>
  obtain⟨fs,hu,_⟩:=ht.str
  unfold Value.okWide at h
  rw[hu]at h
  obtain⟨cs,rfl,_⟩:=h
  simp[jZ,Ty.isAgg,Value.cells]
 |_=>cases hp
theorem qj4:∀{ps:List jT} {ts:List TypeId} {vs:List Value} {ds:List (DataW H)} {pl:List MemPlace},qb3 P ps ts=true->
  (∀(j:Nat) t v,ts[j]? = some t->vs[j]? = some v->∃r b0,Value.okWide P W r b0 t v)->DataW.TrodAll enc P W 0 (λ_=>true) true ts vs ds pl->
  ∃(d:PDens ps) (Φs:List qB),jP P W (allH W) ps d vs Φs/\qd Φs=[]/\qfu ps d/\qce ps d<=Rows.uptoBulkAll ds
 |[],[],vs,ds,pl,_,_,h=>by
  obtain⟨rfl,rfl,_⟩:=trodAll_nil h
  exact⟨(),[],⟨rfl,rfl⟩,rfl,trivial,Nat.le_refl _⟩
 |.v τ::ps,t::ts,vs,ds,pl,hp,hval,h=>by
  simp only[qb3,Bool.and_eq_true]at hp
  obtain⟨⟨⟨⟨⟨h1,h2⟩,h3⟩,_⟩,_⟩,h6⟩:=hp
  obtain⟨v,vs',d,ds',p,q,rfl,rfl,_,hd,hr⟩:=trodAll_cons h
  obtain⟨d',Φs,k1,k2,k3,k4⟩:=qj4 (ps:=ps) h6 (λj t v hj hv=>hval (j+1) t v hj hv) hr
  obtain⟨n,hn⟩:=hd
  obtain⟨x,e1,e2,e3⟩:=(qf3 (enc:=enc) (P:=P) (W:=W) τ h1).1 (t:=t) h3 hn
  obtain⟨r,b0,ho⟩:=hval 0 t v rfl rfl
  refine⟨(x,d'),qw::Φs,⟨v,vs',qw,Φs,rfl,rfl,h2,rfl,⟨v.cells.toList,toV_of h1 h3 ho,e1⟩,k1⟩,by simpa[qd,qw]using k2,⟨e2,k3⟩,?_⟩
  show qeR τ x+qce ps d'<=Rows.uptoBulk d+Rows.uptoBulkAll ds'
  have e3':qeR τ x<=Rows.uptoBulk d:=e3
  omega
 |[],_::_,_,_,_,hp,_,_=>by cases hp
 |.v _::_,[],_,_,_,hp,_,_=>by cases hp
 |.r _::_,_,_,_,_,hp,_,_=>by simp[qb3]at hp
 |.c _::_,_,_,_,_,hp,_,_=>by simp[qb3]at hp
 |.m _::_,_,_,_,_,hp,_,_=>by simp[qb3]at hp
 |.mr _ _::_,_,_,_,_,hp,_,_=>by simp[qb3]at hp
 |.t _ _::_,_,_,_,_,hp,_,_=>by simp[qb3]at hp
 |.gm _::_,_,_,_,_,hp,_,_=>by simp[qb3]at hp
 |.cm _ _::_,_,_,_,_,hp,_,_=>by simp[qb3]at hp
theorem qj3{W':World}{sp:Nat->Bool}(hl:laidOutB P=true):∀{ps:List jT} {ts:List TypeId} {vs:List Value} {ds:List (DataW H)} {pl:List MemPlace},qb3 P ps ts=true->
  DataW.TrodAll enc P W 0 (λ_=>true) true ts vs ds pl->(∀p∈pl,W.sameAt W' p)->(∀p∈pl,sp p.block=true)->DataW.TrodAll enc P W' 0 sp true ts vs ds pl
 |[],[],vs,ds,pl,_,h,_,_=>by
  obtain⟨rfl,rfl,rfl⟩:=trodAll_nil h
  exact rfl
 |.v τ::ps,t::ts,vs,ds,pl,hp,h,hs,hb=>by
  simp only[qb3,Bool.and_eq_true]at hp
  obtain⟨⟨⟨⟨⟨_,_⟩,_⟩,h4⟩,h5⟩,h6⟩:=hp
  obtain⟨v,vs',d,ds',p,q,rfl,rfl,rfl,hd,hr⟩:=trodAll_cons h
  exact⟨p,q,Trod_stays hl h4 (Eq.mp Nat.blt_eq h5) hd (λx hx=>hs x (List.mem_append_left _ hx)) (λx hx=>hb x (List.mem_append_left _ hx)),
   qj3 hl h6 hr (λx hx=>hs x (List.mem_append_right _ hx)) (λx hx=>hb x (List.mem_append_right _ hx)),rfl⟩
 |[],_::_,_,_,_,hp,_,_,_=>by cases hp
 |.v _::_,[],_,_,_,hp,_,_,_=>by cases hp
 |.r _::_,_,_,_,_,hp,_,_,_=>by simp[qb3]at hp
 |.c _::_,_,_,_,_,hp,_,_,_=>by simp[qb3]at hp
 |.m _::_,_,_,_,_,hp,_,_,_=>by simp[qb3]at hp
 |.mr _ _::_,_,_,_,_,hp,_,_,_=>by simp[qb3]at hp
 |.t _ _::_,_,_,_,_,hp,_,_,_=>by simp[qb3]at hp
 |.gm _::_,_,_,_,_,hp,_,_,_=>by simp[qb3]at hp
 |.cm _ _::_,_,_,_,_,hp,_,_,_=>by simp[qb3]at hp
theorem qji{f:Func}{s:ChangeSpec}{apart qeL handsOn again:Bool}{W W':World}{args:Array Value}{v:Value}{ds gs:List (DataW H)}{before pa pv:List MemPlace}
  (hW:DataW.Whole enc P f.params.toList s.vars apart W args.toList ds gs before)
  (hres:∀(b:Nat) (sp:Nat->Bool) (hd:Bool),DataW.TrodAll enc P W' b sp hd f.resultTypes.toList (v.resultList f.resultTypes.size) (s.fn H (ds++gs)).results [])
  (hargs:∀sp:Nat->Bool,(∀p∈before,sp p.block=true)->DataW.TrodAll enc P W' 0 sp true f.params.toList args.toList (s.fn H (ds++gs)).args pa)
  (hvars:∀sp:Nat->Bool,(∀p∈before,sp p.block=true)->DataW.TrodVars enc P W' sp s.vars (s.fn H (ds++gs)).vars pv)
  (hps:before=pa++pv) (hb:Below W.heap.size W W')
  (hok:∀(j:Nat) (t:TypeId) (r:Value),f.resultTypes[j]? = some t->(v.resultList f.resultTypes.size)[j]? = some r->Value.okWide P W' .any 0 t r):
  s.post enc P f apart qeL handsOn again W args v W':=by
 have hlt:∀p∈before,p.block<W.heap.size:=λp hp=>hW.lt p hp
 have hold:∀p∈before,(λb=>decide (b<W.heap.size)) p.block=true:=λp hp=>by simpa using hlt p hp
 refine⟨ds,gs,before,[],pa,pv,hW,hres _ _ _,hargs _ hold,hvars _ hold,World.keptBut_mono (λp hp=>⟨hp,?_⟩) (hb.frame (· ∈before)),λ_=>?_⟩
 ·rw[hps,List.mem_append]at hp
  exact Or.inr hp
 ·obtain⟨_,_,_,_,_,hz,hn⟩:=hW
  refine⟨hok,_,_,([]++pa)++pv,⟨[]++pa,pv,trodAll_append (hargs _ (λ_ _=>rfl)) (hres _ _ _),hvars _ (λ_ _=>rfl),rfl,?_,?_⟩,?_⟩
  ·intro b off hp
   have hin:MemPlace.cell b off∈before:=by rw[hps];simpa using hp
   rw[hb.frozen (hlt _ hin)]
   exact hz b off hin
  ·intro ha
   have:=hn ha
   rw[hps]at this
   simpa using this
  ·intro p hp _
   rw[hps]
   simpa using hp
theorem law_post{f:FuncId}{fn:Func}{ps:List jT}{g:PDens ps->Option (RDens [.v .bool]×MDens ps)}(hp:qZ P f ⟨ps,[.v .bool],g⟩)(hl:laidOutB P=true)(hps:qb3 P ps fn.params.toList=true)
  {rt:TypeId} (hrt:fn.resultTypes = #[rt]) (hb:P.underlying rt=some .bool) {s:ChangeSpec} (hv:s.vars=[]) (hfn:∀ds:List (DataW H),ds.length=fn.params.size->s.fn H ds={results:=[.lit (.bool true)],args:=ds})
  (hlaw:∀d,qfu ps d->qce ps d<=1048576->∃md,g d=some ((true,()),md))
  {r:Reach} {base:Nat} {args:Array Value} {ds gs:List (DataW H)} {before:List MemPlace} {apart qeL handsOn again:Bool}
  (hval:∀(j:Nat) t v,fn.params[j]? = some t->args[j]? = some v->Value.okWide P W r base t v)
  (hW:DataW.Whole enc P fn.params.toList s.vars apart W args.toList ds gs before) (hk:Rows.uptoSmall H (ds++gs)=true):
  Calls P f args W λe W'=>∃v,e = .returned v/\s.post enc P fn apart qeL handsOn again W args v W':=by
 have hW':=hW
 obtain⟨p,q,hA,hV,rfl,hfz,hnd⟩:=hW
 rw[hv]at hV
 obtain⟨rfl,rfl⟩:=trodVars_none hV
 rw[List.append_nil]at hk
 obtain⟨d,Φs,k1,k2,k3,k4⟩:=qj4 hps (λj t v hj hv=>⟨r,base,hval j t v (by simpa using hj) (by simpa using hv)⟩) hA
 have hsm:Rows.uptoBulkAll ds<=1048576:=of_decide_eq_true hk
 obtain⟨md,hg⟩:=hlaw d k3 (Nat.le_trans k4 hsm)
 have hc:=hp.2 d _ hg W (allH W) args.toList Φs (allH_ok W) k1 (by rw[k2];exact List.nodup_nil) (by rw[k2];simp)
 rw[Array.toArray_toList]at hc
 refine hc.mono ?_
 rintro e W' ⟨us,H',Φs',Ψs,rfl,hmod,_,_,_,hres,_⟩
 obtain⟨v,vs',φ,Φs2,rfl,_,_,_,⟨cs,rfl,hrep⟩,hnil⟩:=hres
 obtain⟨rfl,_⟩:=hnil
 obtain⟨rfl,_⟩:=hrep
 have hdl:ds.length=fn.params.size:=by rw[qhc hA];simp
 have hbelow:Below W.heap.size W W':=⟨hmod.os,hmod.tape,hmod.output,hmod.size,λk hk=>hmod.block k hk (by rw[k2];simp)⟩
 have hlt:∀x∈p,x.block<W.heap.size:=λx hx=>hW'.lt x (List.mem_append_left _ hx)
 have hsame:∀x∈p,W.sameAt W' x:=by
  intro x hx
  have hb:=hbelow.block x.block (hlt x hx)
  cases x with
  |cell b off=>exact World.cell?_of_block (w:=W) hb
  |map b=>exact hb
 refine⟨.bool true,rfl,qji (pa:=p) (pv:=[]) hW' ?_ ?_ ?_ rfl hbelow ?_⟩
 ·intro b sp hd
  rw[List.append_nil,hfn ds hdl,hrt]
  exact trodAll_mk1 (shut_bool hb true)
 ·intro sp hsp
  rw[List.append_nil,hfn ds hdl]
  exact qj3 hl hps hA hsame (λx hx=>hsp x (List.mem_append_left _ hx))
 ·intro sp _
  rw[hv,List.append_nil,hfn ds hdl]
  exact rfl
 ·exact ok_one hrt rfl (okWide_bool_mk hb true)
end
end Go.Vi
namespace Go.Vi
theorem qJ{α R:Type}(x:α)(k:α->Option R):qa (some x) k=k x:=rfl
theorem qc6{α R:Type}{o:Option α}{x:α}(h:o=some x)(k:α->Option R):qa o k=k x:=by rw[h];rfl
theorem qhZ{α β R:Type}(x:α)(k:α->Option R)(l:β->Option R):qbk (.inl x) k l=k x:=rfl
theorem qey{α β R:Type}(x:β)(k:α->Option R)(l:β->Option R):qbk (.inr x) k l=l x:=rfl
theorem qcp{R:Type}{a b:Int}(h:a<=b)(k:Option R):leK a b k=k:=by unfold leK;rw[if_pos h]
theorem qcV{R:Type}{n:Int}(h0:0<=n)(h:n<=274877906944)(k:Option R):ql n k=k:=by rw[jR,if_pos ⟨h0,h⟩]
theorem qej{R:Type}{i:Int}{n:Nat}(h0:0<=i)(h:i<n)(k:Option R):inR i n k=k:=by unfold inR;rw[if_pos ⟨h0,h⟩]
theorem qcf{α R:Type}(x:α)(k:α->Option R):qbA x k=k x:=rfl
theorem qbs{α R:Type}(x:α)(k:α->Option R):qcE x k=k x:=rfl
theorem qaE{p:Prop}[Decidable p](h:p):decide p=true:=decide_eq_true h
theorem qbj{p:Prop}[Decidable p](h:¬p):decide p=false:=decide_eq_false h
theorem qnw{α R:Type}{l:List α}{i:Int}{x:α}(h0:0<=i)(h:l[i.toNat]? = some x)(k:α->Option R):qs l i k=k x:=by
 unfold qs
 rw[if_pos h0,h]
theorem qbD{α R:Type}{l:List α}{i:Nat}{x:α}(h:l[i]? = some x)(k:α->Option R):qs l (i:Int) k=k x:=qnw (by omega) (by rwa[show((i:Int)).toNat=i by omega]) k
def gd{α:Type}[Inhabited α](l:List α)(i:Int):α:=l.getD i.toNat default
theorem qkH{α:Type}[Inhabited α]{l:List α}{i:Int}(h0:0<=i)(h:i<l.length):l[i.toNat]? = some (gd l i):=by
 unfold gd
 rw[List.getD_eq_getElem?_getD,List.getElem?_eq_getElem (by omega)]
 rfl
theorem qiP{α:Type}[Inhabited α]{l:List α}{i:Nat}(h:i<l.length):l[i]? = some (gd l (i:Int)):=by
 have:=qkH (l:=l) (i:=(i:Int)) (by omega) (by omega)
 rwa[show((i:Int)).toNat=i by omega]at this
theorem qlH{α:Type}[Inhabited α]{l:List α}{i:Nat}{x:α}(h:l[i]? = some x):gd l (i:Int)=x:=by
 unfold gd
 rw[List.getD_eq_getElem?_getD,show((i:Int)).toNat=i by omega,h]
 rfl
theorem qe8{α R:Type}[Inhabited α]{l:List α}{i:Int}(h0:0<=i)(h:i<l.length)(k:α->Option R):qs l i k=k (gd l i):=qnw h0 (qkH h0 h) k
theorem gd_mem{α:Type}[Inhabited α]{l:List α}{i:Int}(h0:0<=i)(h:i<l.length):gd l i∈l:=List.mem_of_getElem? (qkH h0 h)
theorem qhk{α:Type}[Inhabited α]{l:List α}{i:Int}{c:α}(h0:0<=i)(h:i<l.length):gd (l.set i.toNat c) i=c:=by
 unfold gd
 rw[List.getD_eq_getElem?_getD,List.getElem?_set_self (by omega)]
 rfl
theorem qjT{α:Type}[Inhabited α]{l:List α}{i j:Int}{c:α}(h0:0<=i)(hj:0<=j)(h:j≠i):gd (l.set i.toNat c) j=gd l j:=by
 unfold gd
 rw[List.getD_eq_getElem?_getD,List.getElem?_set_ne (by omega),List.getD_eq_getElem?_getD]
theorem qk7{α:Type}[Inhabited α]{l:List α}{i:Nat}(h:i<l.length):l.take (i+1)=l.take i++[gd l (i:Int)]:=by
 rw[List.take_add_one,qiP h]
 rfl
theorem qgl{α:Type}[Inhabited α]{n:Nat}{x:α}{i:Int}(h0:0<=i)(h:i<n):gd (List.replicate n x) i=x:=by
 unfold gd
 rw[List.getD_eq_getElem?_getD,List.getElem?_replicate_of_lt (by omega)]
 rfl
theorem qlI{α:Type}[Inhabited α]{a b:List α}{i:Int}(h0:0<=i)(h:i<a.length):gd (a++b) i=gd a i:=by
 unfold gd
 rw[List.getD_eq_getElem?_getD,List.getD_eq_getElem?_getD,List.getElem?_append_left (by omega)]
theorem qiQ{α:Type}[Inhabited α]{a b:List α}{x:α}{i:Int}(h:i=a.length):gd (a++x::b) i=x:=by
 subst h
 unfold gd
 rw[List.getD_eq_getElem?_getD]
 simp
theorem loopN{D R S:Type}{L:Nat->D->Option R}(mk:Nat->S->D)(P:Nat->S->Prop)(Q:R->Prop)(c n:Nat)
  (hend:∀N s,P n s->∃r,L (N+1) (mk n s)=some r/\Q r)
  (hstep:∀N i s,c<=N->i<n->P i s->(∃s',P (i+1) s'/\L (N+1) (mk i s)=L N (mk (i+1) s'))\/∃r,L (N+1) (mk i s)=some r/\Q r):
  ∀(d i:Nat) (N:Nat) (s:S),i+d=n->P i s->d+c<N->∃r,L N (mk i s)=some r/\Q r
 |0,i,N,s,hi,hP,hN=>by
  obtain⟨m,rfl⟩:∃m,N=m+1:=⟨N-1,by omega⟩
  obtain rfl:i=n:=by omega
  exact hend m s hP
 |d+1,i,N,s,hi,hP,hN=>by
  obtain⟨m,rfl⟩:∃m,N=m+1:=⟨N-1,by omega⟩
  rcases hstep m i s (by omega) (by omega) hP with⟨s',hs',e⟩|h
  ·rw[e]
   exact loopN mk P Q c n hend hstep d (i+1) m s' (by omega) hs' (by omega)
  ·exact h
theorem loop0{D R S:Type}{L:Nat->D->Option R}(mk:Nat->S->D)(P:Nat->S->Prop)(Q:R->Prop)(c n:Nat){N:Nat}{s:S}(h0:P 0 s)(hN:n+c<N)
  (hend:∀N s,P n s->∃r,L (N+1) (mk n s)=some r/\Q r)
  (hstep:∀N i s,c<=N->i<n->P i s->(∃s',P (i+1) s'/\L (N+1) (mk i s)=L N (mk (i+1) s'))\/∃r,L (N+1) (mk i s)=some r/\Q r):
  ∃r,L N (mk 0 s)=some r/\Q r:=loopN mk P Q c n hend hstep n 0 N s (by omega) h0 hN
theorem loopF{D R:Type}{L:Nat->D->Option R}(mk:Nat->D)(res:R)(c n:Nat){N:Nat}(hN:n+c<N)
  (hend:∀N,L (N+1) (mk n)=some res)
  (hstep:∀N i,c<=N->i<n->L (N+1) (mk i)=L N (mk (i+1))):L N (mk 0)=some res:=by
 obtain⟨_,h,rfl⟩:=loop0 (L:=L) (λi (_:Unit)=>mk i) (λ_ _=>True) (λr=>r=res) c n (s:=()) trivial hN (λN _ _=>⟨_,hend N,rfl⟩) (λN i _ hc hi _=>.inl ⟨(),trivial,hstep N i hc hi⟩)
 exact h
end Go.Vi
