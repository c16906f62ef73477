/- The abstract interpreter 'Vi', thirty-third part: code within a round of a range over a function. No condition beyond those typed in each theorem. -/
import Derived.Test.YtmlocmhkfnojbaaViC
import Derived.RangeFuncFrom
import Derived.RangeFuncCalls
import Derived.RangeFuncLeaves
import Derived.LoopNIn
import Derived.OwnWalkIn
import Derived.OrdersIn
namespace Go.Vi
section
variable {P:Program} {C:Ctx} {cfg:jG} {R:Type} {r:R} {s s':St} {a:Act} {w:World} {H:FH} {Φ:Nat->qB} {l n:Nat}
def qdt(o:Oper):Bool:=
 match o.op with
 |.defer _=>false
 |_=>true
def stillR(ops:Array Oper):Bool:=ops.toList.all jU&&Region.lexB .any ops
def qai(cfg:jG):Code->Bool
 |.skip=>true
 |.ret=>true
 |.exit _=>true
 |.region id ops draw=>(!draw||((qdH id cfg.enum&&Region.noSelect ops)||stillR ops))&&ops.toList.all qdt
 |.seq x y=>qai cfg x&&qai cfg y
 |.cond _ x y=>qai cfg x&&qai cfg y
 |.block _ c=>qai cfg c
 |.loop c=>qai cfg c
 |_=>false
theorem qje{o:Oper}{K:Act->World->Prop}{Q:Exit->Act->World->Prop}(hnd:qdt o=true)(h:qcQ P C o a w s')(hK:∀a w,jX P C s' a w->K a w):o.wpIn (Fence.wide.inRound l) n P a w K Q:=by
 refine⟨λ_ _=>trivial,?_⟩
 rw[Oper.semAt_plain _ _ _ (λc e=>by rw[qdt,e]at hnd;cases hnd)]
 unfold qcQ at h
 unfold Oper.uponIn
 split at h
 ·rename_i v w' e;rw[e];exact hK _ _ h
 ·rename_i w' e;rw[e];exact hK _ _ h
 ·rename_i f args w' e
  rw[e]
  refine⟨λhd=>(by cases hd),CallsIn.inRound l (callsIn_wide.2 (h.mono ?_))⟩
  rintro e w'' ⟨v,rfl,hsim⟩
  exact hK _ _ hsim
 ·exact h.elim
theorem qir(hcfg:qu P cfg)(hC:qz C cfg){ops:Array Oper}{kk:St->Option R}{Q:Exit->Act->World->Prop}(hQ:∀s a w,jX P C s a w->kk s=some r->Q .normal a w):
  ∀{lo:List Oper} {s:St} {a:Act} {w:World},lo.all qdt=true->jX P C s a w->qau cfg ops kk lo s=some r->wpListIn (Fence.wide.inRound l) n P ops Q lo a w
 |[],s,a,w,_,hs,h=>hQ s a w hs h
 |o::rest,s,a,w,hnd,hs,h=>by
  simp only[List.all_cons,Bool.and_eq_true]at hnd
  obtain⟨hd,h⟩:=qbY hs h
  unfold wpListIn
  rcases h with⟨hw,s2,⟨hs2,_⟩,h⟩|⟨hw,s2,⟨hs2,_⟩,h⟩
  ·rw[hw,if_pos rfl]
   obtain⟨s',h,hg⟩:=qdz hcfg hC hs2 hd h
   exact qje hnd.1 hg (λa w hs=>qir hcfg hC hQ hnd.2 hs h)
  ·rw[hw,if_neg (by simp)]
   exact⟨λ_ _=>trivial,qir hcfg hC hQ hnd.2 (hs2.dead hC hd) h⟩
theorem qmc{o:Oper}{K:Act->World->Prop}{Q:Exit->Act->World->Prop}(hnd:qdt o=true)(h:o.wp P a w K Q):o.wpIn (Fence.wide.inRound l) n P a w K Q:=by
 refine⟨λ_ _=>trivial,?_⟩
 rw[Oper.semAt_plain _ _ _ (λc e=>by rw[qdt,e]at hnd;cases hnd)]
 unfold Oper.wp at h
 revert h
 generalize(execOp a.eval o).run P w=x
 intro h
 unfold Oper.upon at h
 unfold Oper.uponIn
 split at h
 ·exact h
 ·exact h
 ·exact h
 ·exact⟨λhd=>(by cases hd),CallsIn.inRound l (callsIn_wide.2 (h.mono λe w hh=>by cases e<;>exact hh))⟩
 ·exact⟨λhd=>(by cases hd),λc cs _=>let⟨v,w',r,s⟩:=h c cs;⟨v,w',r,stepsIn_wide.2 s⟩⟩
 ·exact h
 ·exact h.elim
theorem qbO{ops:Array Oper}{md:Region.Mode}{Q:Exit->Act->World->Prop}(hnd:ops.toList.all qdt=true)(hL:¬LetsOut Q):∀(qn:Nat) (listed:Array Bool) (a:Act) (w:World),wpAny P md ops Q qn listed a w->wpAnyIn (Fence.wide.inRound l) n P md ops Q qn listed a w
 |0,_,_,_,h=>h
 |qn+1,listed,a,w,h=>by
  refine⟨h.1,λi hi=>?_⟩
  have h2:=h.2 i hi
  unfold wpOp at h2
  unfold wpOpIn
  split at h2
  ·rename_i e
   rw[e]
   exact qbO hnd hL qn _ _ _ h2
  ·rename_i o e
   rw[e]
   simp only
   split at h2
   ·rename_i hw
    rw[if_pos hw]
    rcases h2 with h2|h2
    ·have ho:qdt o=true:=List.all_eq_true.1 hnd o (List.mem_of_getElem? (by rw[Array.getElem?_toList];exact e))
     exact Oper.wpIn_mono (λa w h=>qbO hnd hL qn _ _ _ h) (qmc ho h2)
    ·exact absurd h2.2 hL
   ·rename_i hw
    rw[if_neg hw]
    exact⟨λ_ _=>trivial,qbO hnd hL qn _ _ _ h2⟩
theorem qb9(hm:P.follows .mixedOrders=true)(hcfg:qu P cfg)(hC:qz C cfg):∀(c:Code) {R:Type} {r:R} {m:Nat} {s:St} {k:X->St->Option R} {a:Act} {w:World},qax cfg c->qai cfg c=true->jX P C s a w->run cfg m c s k=some r->c.wpIn (Fence.wide.inRound l) n P (Post P C k r) a w
 |.skip,R,r,m,s,k,a,w,_,_,hs,h=>wpIn_skip ⟨s,hs,h⟩
 |.ret,R,r,m,s,k,a,w,_,_,hs,h=>wpIn_ret ⟨s,hs,h⟩
 |.exit i,R,r,m,s,k,a,w,_,_,hs,h=>wpIn_exit ⟨s,hs,h⟩
 |.region id ops draw,R,r,m,s,k,a,w,_,hd,hs,h=>by
  simp only[qai,Bool.and_eq_true]at hd
  obtain⟨hdr,hnd⟩:=hd
  cases draw with
  |false=>
   simp only[run,Bool.false_and,cond_false]at h
   exact wpIn_region_list (qir hcfg hC (λs a w hs h=>⟨s,hs,h⟩) hnd hs h)
  |true=>
   simp only[Bool.not_true,Bool.false_or]at hdr
   cases hen:qdH id cfg.enum&&Region.noSelect ops with
   |false=>
    rw[hen,Bool.false_or]at hdr
    unfold stillR Region.lexB at hdr
    rw[Bool.and_eq_true,Bool.and_eq_true]at hdr
    simp only[run,Bool.true_and,hen,cond_false]at h
    cases hmp:s.mp with
    |some m=>rw[hmp]at h;cases h
    |none=>
     rw[hmp]at h
     simp only[Option.isSome_none,cond_false]at h
     have hst:=qe5 hcfg hC (l2:=[]) (K:=λa'=>Post P C k r .normal a' {w with drawn:=w.drawn+1}) (λs a hs hmp h=>⟨s,hs.simM hmp,h⟩) hdr.1 (hs.sim.grow (qbu w)) hmp (by rw[List.append_nil];exact h)
     have hlex:=wpAnyS_lex (md:=.any) hdr.2.1 ops.toList 0 (Array.replicate ops.size false) a (by simp) (by simpa using hdr.2.2) hst
     have hsz:ops.toList.length=ops.size:=by simp
     rw[hsz]at hlex
     exact wpIn_region_any hm (qbO hnd (by rintro⟨_,_,h⟩;exact h) _ _ _ _ (wpAny_of_still (λ_ h=>h) _ _ _ hlex))
   |true=>
   rw[Bool.and_eq_true]at hen
   replace hdr:=hen
   simp only[run,Bool.true_and,hdr.1,hdr.2,Bool.and_self,cond_true]at h
   cases hmp:s.mp with
   |some m=>rw[hmp]at h;cases h
   |none=>
    rw[hmp]at h
    simp only[Option.isSome_none,cond_false]at h
    split at h
    ·rename_i sk _
     rw[qi]at h
     replace h:=Option.bind_eq_some_iff.1 h
     obtain⟨d,h,h'⟩:=h
     exact wpIn_region_any hm (qbO hnd (by rintro⟨_,_,h⟩;exact h) _ _ _ _ (qkU hcfg hC hdr.2 (λs a w hs h=>⟨sk.fill d,qba h hs,h'⟩) (λc a w h=>h) _ _ _ (((qaV (cfg:=cfg) ops.toList (hs.sim.grow (qbu w))).1).simM ((qaV (cfg:=cfg) ops.toList (hs.sim.grow (qbu w))).2.trans hmp)) h))
    ·exact wpIn_region_any hm (qbO hnd (by rintro⟨_,_,h⟩;exact h) _ _ _ _ (qkU hcfg hC hdr.2 (λs a w hs h=>⟨s,hs,h⟩) (λc a w h=>h) _ _ _ (((qaV (cfg:=cfg) ops.toList (hs.sim.grow (qbu w))).1).simM ((qaV (cfg:=cfg) ops.toList (hs.sim.grow (qbu w))).2.trans hmp)) h))
 |.seq x y,R,r,m,s,k,a,w,hl,hd,hs,h=>by
  simp only[qai,Bool.and_eq_true]at hd
  refine wpIn_seq (wpIn_mono (qb9 hm hcfg hC x hl.1 hd.1 hs h) ?_)
  intro e a w hp
  cases e with
  |normal=>
   obtain⟨s',hs',h'⟩:=hp
   exact qb9 hm hcfg hC y hl.2 hd.2 hs' h'
  |exit i=>obtain⟨s',hs',h'⟩:=hp;exact⟨s',hs',h'⟩
  |ret=>obtain⟨s',hs',h'⟩:=hp;exact⟨s',hs',h'⟩
  |_=>exact hp.elim
 |.cond c x y,R,r,m,s,k,a,w,hl,hd,hs,h=>by
  simp only[qai,Bool.and_eq_true]at hd
  simp only[run]at h
  split at h
  ·rename_i b hb
   obtain⟨H,Φ,hsb,hM⟩:=hs
   have hv:=(qk hsb qv hb).bool
   refine wpIn_cond hv ?_
   cases b with
   |true=>exact qb9 hm hcfg hC x hl.1 hd.1 ⟨H,Φ,hsb,hM⟩ h
   |false=>exact qb9 hm hcfg hC y hl.2 hd.2 ⟨H,Φ,hsb,hM⟩ h
  ·cases h
 |.block i c,R,r,m,s,k,a,w,hl,hd,hs,h=>by
  refine wpIn_block (wpIn_mono (qb9 hm hcfg hC c hl hd hs h) ?_)
  intro e a w hp
  cases e with
  |normal=>obtain⟨s',hs',h'⟩:=hp;exact⟨s',hs',h'⟩
  |exit j=>
   obtain⟨s',hs',h'⟩:=hp
   simp only[qkS]at h'
   unfold Exit.inBlock
   cases hb:Nat.beq j i with
   |true=>
    rw[hb]at h'
    obtain rfl:=Nat.eq_of_beq_eq_true hb
    simp only[if_true]
    exact⟨s',hs',h'⟩
   |false=>
    rw[hb]at h'
    simp only[Nat.ne_of_beq_eq_false hb,if_false]
    exact⟨s',hs',h'⟩
  |ret=>obtain⟨s',hs',h'⟩:=hp;exact⟨s',hs',h'⟩
  |_=>exact hp.elim
 |.loop c,R,r,m,s,k,a,w,hl,hd,hs,h=>by
  simp only[run]at h
  split at h
  ·cases h
  ·rename_i key hkey
   split at h
   ·rename_i hn
    split at h
    ·cases h
    ·rename_i li hli
     split at h
     ·cases h
     ·rename_i d hd'
      have ho:=qhU h
      obtain⟨heq0,heq⟩:=hl.2.2 key li hkey hn hli
      have hs':=qba hd' hs
      have rounds:∀j d a w,li.w j d (λo=>outK k li.outs o=some r)=some ()->jX P C (li.ins.fill d) a w->Code.roundsIn (Fence.wide.inRound l) n P c (Post P C k r) j a w:=by
       intro j
       induction j with
       |zero=>intro d a w hg;rw[heq0]at hg;cases hg
       |succ j ih=>
        intro d a w hg hsd
        rw[heq]at hg
        refine wpIn_mono (qb9 hm hcfg hC c hl.1 hd hsd hg) ?_
        intro e a w hp
        cases e with
        |normal=>
         obtain⟨s2,hs2,h2⟩:=hp
         simp only[qcL]at h2
         split at h2
         ·rename_i d2 hd2
          exact ih d2 a w h2 (qba hd2 hs2)
         ·cases h2
        |exit j=>
         obtain⟨s2,hs2,h2⟩:=hp
         simp only[qcL]at h2
         split at h2
         case h_2=>cases h2
         rename_i o2 ho2
         obtain⟨s3,hs3,h3⟩:=qbf hs2 (k:=k) ho2
         exact⟨s3,hs3,by rw[<-h3];exact qct h2⟩
        |ret=>
         obtain⟨s2,hs2,h2⟩:=hp
         simp only[qcL]at h2
         split at h2
         case h_2=>cases h2
         rename_i o2 ho2
         obtain⟨s3,hs3,h3⟩:=qbf hs2 (k:=k) ho2
         exact⟨s3,hs3,by rw[<-h3];exact qct h2⟩
        |_=>exact hp.elim
      exact wpIn_loop_rounds m (rounds m d a w ho hs')
   ·rename_i li hli
    split at h
    ·cases h
    ·rename_i d hd'
     rw[qi]at h
     replace h:=Option.bind_eq_some_iff.1 h
     obtain⟨o,ho,h⟩:=h
     obtain⟨heq0,heq⟩:=hl.2.1 key li hkey hli
     have hs':=qba hd' hs
     have rounds:∀j d a w,li.g j d=some o->jX P C (li.ins.fill d) a w->Code.roundsIn (Fence.wide.inRound l) n P c (Post P C k r) j a w:=by
      intro j
      induction j with
      |zero=>intro d a w hg;rw[heq0]at hg;cases hg
      |succ j ih=>
       intro d a w hg hsd
       rw[heq]at hg
       refine wpIn_mono (qb9 hm hcfg hC c hl.1 hd hsd hg) ?_
       intro e a w hp
       cases e with
       |normal=>
        obtain⟨s2,hs2,h2⟩:=hp
        simp only[jH]at h2
        split at h2
        ·rename_i d2 hd2
         exact ih d2 a w h2 (qba hd2 hs2)
        ·cases h2
       |exit j=>
        obtain⟨s2,hs2,h2⟩:=hp
        obtain⟨s3,hs3,h3⟩:=qbf hs2 (k:=k) h2
        exact⟨s3,hs3,by rw[<-h3];exact h⟩
       |ret=>
        obtain⟨s2,hs2,h2⟩:=hp
        obtain⟨s3,hs3,h3⟩:=qbf hs2 (k:=k) h2
        exact⟨s3,hs3,by rw[<-h3];exact h⟩
       |_=>exact hp.elim
     exact wpIn_loop_rounds m (rounds m d a w ho hs')
end
end Go.Vi
