/- The abstract interpreter 'Vi', thirty-third part: code within a round of a range over a function. No condition beyond those typed in each theorem. -/
import Derived.Test.YtmlocmhkfnojbaaGreatViC
import Derived.RangeFuncFrom
import Derived.RangeFuncCalls
import Derived.RangeFuncLeaves
import Derived.LoopNIn
import Derived.OwnWalkIn
import Derived.OrdersIn
namespace Go.Vi
section
variable {P:Program} {C:cM} {aa:jB} {R:Type} {r:R} {s s':St} {a:Act} {w:World} {H:FH} {Φ:Nat->qH} {l n:Nat}
def Kh(o:Oper):Bool:=
 match o.op with
 |.defer _=>false
 |_=>true
def Ar(ops:Array Oper):Bool:=ops.toList.all jX&&Region.lexB .any ops
def uH(aa:jB):Code->Bool
 |.skip=>true
 |.ret=>true
 |.exit _=>true
 |.region id ops draw=>(!draw||((nP id aa.mK&&Region.noSelect ops)||Ar ops))&&ops.toList.all Kh
 |.seq x y=>uH aa x&&uH aa y
 |.cond _ x y=>uH aa x&&uH aa y
 |.block _ c=>uH aa c
 |.loop c=>uH aa c
 |_=>false
theorem qjK{o:Oper}{K:Act->World->Prop}{Q:Exit->Act->World->Prop}(aq:Kh o=true)(h:uB P C o a w s')(hK:∀a w,j1 P C s' a w->K a w):o.wpIn (Fence.wide.inRound l) n P a w K Q:=by
 refine⟨λ_ _=>trivial,?_⟩
 rw[Oper.semAt_plain _ _ _ (λc e=>by rw[Kh,e]at aq;cases aq)]
 unfold uB at h
 unfold Oper.uponIn
 split at h
 ·rename_i v w' e;rw[e];exact hK _ _ h
 ·rename_i w' e;rw[e];exact hK _ _ h
 ·rename_i f args w' e
  rw[e]
  refine⟨λhd=>(by cases hd),CallsIn.inRound l (callsIn_wide.2 (h.mono ?_))⟩
  rintro e w'' ⟨v,rfl,bE⟩
  exact hK _ _ bE
 ·exact h.elim
theorem qi1(ae:qx P aa)(hC:qD C aa){ops:Array Oper}{kk:St->Option R}{Q:Exit->Act->World->Prop}(hQ:∀s a w,j1 P C s a w->kk s=some r->Q .normal a w):
  ∀{lo:List Oper} {s:St} {a:Act} {w:World},lo.all Kh=true->j1 P C s a w->ku aa ops kk lo s=some r->wpListIn (Fence.wide.inRound l) n P ops Q lo a w
 |[],s,a,w,_,hs,h=>hQ s a w hs h
 |o::rest,s,a,w,aq,hs,h=>by
  simp only[List.all_cons,Bool.and_eq_true]at aq
  obtain⟨hd,h⟩:=MJ hs h
  unfold wpListIn
  rcases h with⟨hw,s2,⟨hs2,_⟩,h⟩|⟨hw,s2,⟨hs2,_⟩,h⟩
  ·rw[hw,if_pos rfl]
   obtain⟨s',h,hg⟩:=ZL ae hC hs2 hd h
   exact qjK aq.1 hg (λa w hs=>qi1 ae hC hQ aq.2 hs h)
  ·rw[hw,if_neg (by simp)]
   exact⟨λ_ _=>trivial,qi1 ae hC hQ aq.2 (hs2.dead hC hd) h⟩
theorem qmJ{o:Oper}{K:Act->World->Prop}{Q:Exit->Act->World->Prop}(aq:Kh o=true)(h:o.wp P a w K Q):o.wpIn (Fence.wide.inRound l) n P a w K Q:=by
 refine⟨λ_ _=>trivial,?_⟩
 rw[Oper.semAt_plain _ _ _ (λc e=>by rw[Kh,e]at aq;cases aq)]
 unfold Oper.wp at h
 revert h
 generalize(execOp a.eval o).run P w=x
 intro h
 unfold Oper.upon at h
 unfold Oper.uponIn
 split at h
 ·exact h
 ·exact h
 ·exact h
 ·exact⟨λhd=>(by cases hd),CallsIn.inRound l (callsIn_wide.2 (h.mono λe w hh=>by cases e<;>exact hh))⟩
 ·exact⟨λhd=>(by cases hd),λc cs _=>let⟨v,w',r,s⟩:=h c cs;⟨v,w',r,stepsIn_wide.2 s⟩⟩
 ·exact h
 ·exact h.elim
theorem RS{ops:Array Oper}{md:Region.Mode}{Q:Exit->Act->World->Prop}(aq:ops.toList.all Kh=true)(hL:¬LetsOut Q):∀(qk:Nat) (listed:Array Bool) (a:Act) (w:World),wpAny P md ops Q qk listed a w->wpAnyIn (Fence.wide.inRound l) n P md ops Q qk listed a w
 |0,_,_,_,h=>h
 |qk+1,listed,a,w,h=>by
  refine⟨h.1,λi hi=>?_⟩
  have h2:=h.2 i hi
  unfold wpOp at h2
  unfold wpOpIn
  split at h2
  ·rename_i e
   rw[e]
   exact RS aq hL qk _ _ _ h2
  ·rename_i o e
   rw[e]
   simp only
   split at h2
   ·rename_i hw
    rw[if_pos hw]
    rcases h2 with h2|h2
    ·have ho:Kh o=true:=List.all_eq_true.1 aq o (List.mem_of_getElem? (by rw[Array.getElem?_toList];exact e))
     exact Oper.wpIn_mono (λa w h=>RS aq hL qk _ _ _ h) (qmJ ho h2)
    ·exact absurd h2.2 hL
   ·rename_i hw
    rw[if_neg hw]
    exact⟨λ_ _=>trivial,RS aq hL qk _ _ _ h2⟩
theorem Hu(hm:P.follows .mixedOrders=true)(ae:qx P aa)(hC:qD C aa):∀(c:Code) {R:Type} {r:R} {m:Nat} {s:St} {k:X->St->Option R} {a:Act} {w:World},pX aa c->uH aa c=true->j1 P C s a w->run aa m c s k=some r->c.wpIn (Fence.wide.inRound l) n P (Post P C k r) a w
 |.skip,R,r,m,s,k,a,w,_,_,hs,h=>wpIn_skip ⟨s,hs,h⟩
 |.ret,R,r,m,s,k,a,w,_,_,hs,h=>wpIn_ret ⟨s,hs,h⟩
 |.exit i,R,r,m,s,k,a,w,_,_,hs,h=>wpIn_exit ⟨s,hs,h⟩
 |.region id ops draw,R,r,m,s,k,a,w,_,hd,hs,h=>by
  simp only[uH,Bool.and_eq_true]at hd
  obtain⟨ax,aq⟩:=hd
  cases draw with
  |false=>
   simp only[run,Bool.false_and,cond_false]at h
   exact wpIn_region_list (qi1 ae hC (λs a w hs h=>⟨s,hs,h⟩) aq hs h)
  |true=>
   simp only[Bool.not_true,Bool.false_or]at ax
   cases La:nP id aa.mK&&Region.noSelect ops with
   |false=>
    rw[La,Bool.false_or]at ax
    unfold Ar Region.lexB at ax
    rw[Bool.and_eq_true,Bool.and_eq_true]at ax
    simp only[run,Bool.true_and,La,cond_false]at h
    cases hmp:s.mp with
    |some m=>rw[hmp]at h;cases h
    |none=>
     rw[hmp]at h
     simp only[Option.isSome_none,cond_false]at h
     have hst:=Zr ae hC (l2:=[]) (K:=λa'=>Post P C k r .normal a' {w with drawn:=w.drawn+1}) (λs a hs hmp h=>⟨s,hs.nM hmp,h⟩) ax.1 (hs.pM.grow (Gm w)) hmp (by rw[List.append_nil];exact h)
     have VU:=wpAnyS_lex (md:=.any) ax.2.1 ops.toList 0 (Array.replicate ops.size false) a (by simp) (by simpa using ax.2.2) hst
     have hsz:ops.toList.length=ops.size:=by simp
     rw[hsz]at VU
     exact wpIn_region_any hm (RS aq (by rintro⟨_,_,h⟩;exact h) _ _ _ _ (wpAny_of_still (λ_ h=>h) _ _ _ VU))
   |true=>
   rw[Bool.and_eq_true]at La
   replace ax:=La
   simp only[run,Bool.true_and,ax.1,ax.2,Bool.and_self,cond_true]at h
   cases hmp:s.mp with
   |some m=>rw[hmp]at h;cases h
   |none=>
    rw[hmp]at h
    simp only[Option.isSome_none,cond_false]at h
    split at h
    ·rename_i sk _
     rw[qj]at h
     replace h:=Option.bind_eq_some_iff.1 h
     obtain⟨d,h,h'⟩:=h
     exact wpIn_region_any hm (RS aq (by rintro⟨_,_,h⟩;exact h) _ _ _ _ (Yw ae hC ax.2 (λs a w hs h=>⟨sk.fill d,uF h hs,h'⟩) (λc a w h=>h) _ _ _ (((zl (aa:=aa) ops.toList (hs.pM.grow (Gm w))).1).nM ((zl (aa:=aa) ops.toList (hs.pM.grow (Gm w))).2.trans hmp)) h))
    ·exact wpIn_region_any hm (RS aq (by rintro⟨_,_,h⟩;exact h) _ _ _ _ (Yw ae hC ax.2 (λs a w hs h=>⟨s,hs,h⟩) (λc a w h=>h) _ _ _ (((zl (aa:=aa) ops.toList (hs.pM.grow (Gm w))).1).nM ((zl (aa:=aa) ops.toList (hs.pM.grow (Gm w))).2.trans hmp)) h))
 |.seq x y,R,r,m,s,k,a,w,hl,hd,hs,h=>by
  simp only[uH,Bool.and_eq_true]at hd
  refine wpIn_seq (wpIn_mono (Hu hm ae hC x hl.1 hd.1 hs h) ?_)
  intro e a w hp
  cases e with
  |normal=>
   obtain⟨s',hs',h'⟩:=hp
   exact Hu hm ae hC y hl.2 hd.2 hs' h'
  |exit i=>obtain⟨s',hs',h'⟩:=hp;exact⟨s',hs',h'⟩
  |ret=>obtain⟨s',hs',h'⟩:=hp;exact⟨s',hs',h'⟩
  |_=>exact hp.elim
 |.cond c x y,R,r,m,s,k,a,w,hl,hd,hs,h=>by
  simp only[uH,Bool.and_eq_true]at hd
  simp only[run]at h
  split at h
  ·rename_i b hb
   obtain⟨H,Φ,gn,hM⟩:=hs
   have hv:=(ql gn qy hb).bool
   refine wpIn_cond hv ?_
   cases b with
   |true=>exact Hu hm ae hC x hl.1 hd.1 ⟨H,Φ,gn,hM⟩ h
   |false=>exact Hu hm ae hC y hl.2 hd.2 ⟨H,Φ,gn,hM⟩ h
  ·cases h
 |.block i c,R,r,m,s,k,a,w,hl,hd,hs,h=>by
  refine wpIn_block (wpIn_mono (Hu hm ae hC c hl hd hs h) ?_)
  intro e a w hp
  cases e with
  |normal=>obtain⟨s',hs',h'⟩:=hp;exact⟨s',hs',h'⟩
  |exit j=>
   obtain⟨s',hs',h'⟩:=hp
   simp only[Yx]at h'
   unfold Exit.inBlock
   cases hb:Nat.beq j i with
   |true=>
    rw[hb]at h'
    obtain rfl:=Nat.eq_of_beq_eq_true hb
    simp only[if_true]
    exact⟨s',hs',h'⟩
   |false=>
    rw[hb]at h'
    simp only[Nat.ne_of_beq_eq_false hb,if_false]
    exact⟨s',hs',h'⟩
  |ret=>obtain⟨s',hs',h'⟩:=hp;exact⟨s',hs',h'⟩
  |_=>exact hp.elim
 |.loop c,R,r,m,s,k,a,w,hl,hd,hs,h=>by
  simp only[run]at h
  split at h
  ·cases h
  ·rename_i key hkey
   split at h
   ·rename_i hn
    split at h
    ·cases h
    ·rename_i li yn
     split at h
     ·cases h
     ·rename_i d dK
      have ho:=qit h
      obtain⟨mF,heq⟩:=hl.2.2 key li hkey hn yn
      have hs':=uF dK hs
      have rounds:∀j d a w,li.w j d (λo=>vo k li.outs o=some r)=some ()->j1 P C (li.ins.fill d) a w->Code.roundsIn (Fence.wide.inRound l) n P c (Post P C k r) j a w:=by
       intro j
       induction j with
       |zero=>intro d a w hg;rw[mF]at hg;cases hg
       |succ j ih=>
        intro d a w hg yd
        rw[heq]at hg
        refine wpIn_mono (Hu hm ae hC c hl.1 hd yd hg) ?_
        intro e a w hp
        cases e with
        |normal=>
         obtain⟨s2,hs2,h2⟩:=hp
         simp only[qc3]at h2
         split at h2
         ·rename_i d2 hd2
          exact ih d2 a w h2 (uF hd2 hs2)
         ·cases h2
        |exit j=>
         obtain⟨s2,hs2,h2⟩:=hp
         simp only[qc3]at h2
         split at h2
         case h_2=>cases h2
         rename_i o2 df
         obtain⟨s3,i_,h3⟩:=xR hs2 (k:=k) df
         exact⟨s3,i_,by rw[<-h3];exact MK h2⟩
        |ret=>
         obtain⟨s2,hs2,h2⟩:=hp
         simp only[qc3]at h2
         split at h2
         case h_2=>cases h2
         rename_i o2 df
         obtain⟨s3,i_,h3⟩:=xR hs2 (k:=k) df
         exact⟨s3,i_,by rw[<-h3];exact MK h2⟩
        |_=>exact hp.elim
      exact wpIn_loop_rounds m (rounds m d a w ho hs')
   ·rename_i li yn
    split at h
    ·cases h
    ·rename_i d dK
     rw[qj]at h
     replace h:=Option.bind_eq_some_iff.1 h
     obtain⟨o,ho,h⟩:=h
     obtain⟨mF,heq⟩:=hl.2.1 key li hkey yn
     have hs':=uF dK hs
     have rounds:∀j d a w,li.g j d=some o->j1 P C (li.ins.fill d) a w->Code.roundsIn (Fence.wide.inRound l) n P c (Post P C k r) j a w:=by
      intro j
      induction j with
      |zero=>intro d a w hg;rw[mF]at hg;cases hg
      |succ j ih=>
       intro d a w hg yd
       rw[heq]at hg
       refine wpIn_mono (Hu hm ae hC c hl.1 hd yd hg) ?_
       intro e a w hp
       cases e with
       |normal=>
        obtain⟨s2,hs2,h2⟩:=hp
        simp only[qV]at h2
        split at h2
        ·rename_i d2 hd2
         exact ih d2 a w h2 (uF hd2 hs2)
        ·cases h2
       |exit j=>
        obtain⟨s2,hs2,h2⟩:=hp
        obtain⟨s3,i_,h3⟩:=xR hs2 (k:=k) h2
        exact⟨s3,i_,by rw[<-h3];exact h⟩
       |ret=>
        obtain⟨s2,hs2,h2⟩:=hp
        obtain⟨s3,i_,h3⟩:=xR hs2 (k:=k) h2
        exact⟨s3,i_,by rw[<-h3];exact h⟩
       |_=>exact hp.elim
     exact wpIn_loop_rounds m (rounds m d a w ho hs')
end
end Go.Vi
