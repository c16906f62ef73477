/- The abstract interpreter Vi, part B: a verified interpreter over the model's code, whose run of a function gives the contract of the function. No condition beyond those typed in each theorem. -/
import Derived.Test.YtmlocmhkfnojbaaGreatViZ
import Derived.Laws.Cover3
import Derived.Great.BuildSlice
namespace Go.Vi
section
variable {P:Program} {C:cM} {aa:jB} {R:Type} {r:R} {s:St} {a:Act} {w:World} {H:FH} {Φ:Nat->qH} {dst:Option Nat} {ty:TypeId} {pos:String} {after:Array Edge} {guard:Option (Nat×Bool)} {k:St->Option R}
theorem RR{t:TypeId}{τ:Ty}(h:qT P t τ){w:World}{b o:Nat}{blk:Array Value}{bt:TypeId}{f:Nat×Nat}(hb:w.heap[b]? = some (.cells blk bt f))(hs:(ct blk o τ.size).length=τ.size):
  (Instr.loadAt t (.pointer (some ⟨b,o,none⟩))).run P w = .ok (j7 τ (ct blk o τ.size)) w:=by
 obtain⟨_,_,_,hp,_⟩:=h.info
 obtain⟨pre,post,e1,e2⟩:=qj2 hs hp
 have:=qhH h hb e1 hs
 rw[e2]at this
 simp[Instr.loadAt,Instr.sureAddr,this]
theorem GM(ae:qx P aa)(hC:qD C aa){T:TypeId}{x:Operand}{av:AV}{s':St}(hs:qh P C s a w H Φ)(hd:qK aa.nt dst=true)(hr:qi P C w H Φ s.obj av (a.eval x))(h:qmL aa s dst T av=some s'):
  fG P C ⟨dst,.load T x,ty,pos,after,guard⟩ a w s':=by
 cases dst with
 |none=>cases h
 |some d=>
 unfold qmL at h
 simp only at h
 cases fc:lk aa.fl d with
 |none=>rw[fc]at h;cases h
 |some _=>
 rw[fc]at h
 cases av with
 |ptr id p=>
  cases p with
  |cons _ _=>cases h
  |nil=>
  simp only at h
  cases ho:s.obj id with
  |none=>rw[ho]at h;cases h
  |some o=>
  rw[ho]at h
  simp only at h
  cases hq: !o.row&&(TB o.τ&&decide (lk aa.ty T=some o.τ.fz))with
  |false=>rw[hq]at h;cases h
  |true=>
  rw[hq,cond_true]at h
  cases h
  rw[Bool.and_eq_true,Bool.and_eq_true]at hq
  obtain⟨hrow,Sd,hT⟩:=hq
  obtain⟨row,τ,y⟩:=o
  cases row with
  |true=>cases hrow
  |false=>
  obtain⟨a_,_⟩:=ae.ty T _ (of_decide_eq_true hT)
  have my:=qT.gw a_
  have mG:d<aa.nt:=Eq.mp Nat.blt_eq hd
  have hd2:d<4000000:=Nat.lt_of_lt_of_le mG (Nat.le_trans ae.small (by decide))
  obtain⟨h1,h2⟩:=hs.os id _ ho
  obtain⟨hn,aq,blk,t,aC,e1,e2,e3⟩:=h1
  obtain⟨o',z,b,off,q1,q2,q3,q4,hv⟩:=hr
  rw[ho]at q1
  cases q1
  obtain⟨rfl,rfl⟩:=jT.fN _ q4 (kV w τ (Φ id).b 0)
  have hlen:=qm.length τ e2
  have eB:ct blk 0 τ.size=blk.toList:=qZ (pre:=[]) (post:=[]) (by simp) hlen
  have KK:=hs.remove id
  have bF:∀j o,((s.kill id).setObj id none).obj j=some o->s.obj j=some o/\j≠id:=by
   intro j o hj
   rw[St.ak]at hj
   split at hj
   ·cases hj
   ·rename_i hne;exact⟨hj,λe=>hne e.symm⟩
  rw[e3,List.nodup_cons]at aq
  have KQ:=KK.newObj (jO.refl _ _) (hC.gQ d (Nat.lt_trans hd2 (by decide))) (uE hd2) (row:=true) (τ:=τ) (x:=y) (φ:=⟨0,j7 τ blk.toList,aC⟩)
   ⟨hn,aq.2,Sd,blk.toList,rfl,e2⟩ (by
    intro b hb
    have hb':b∈(Φ id).fp:=by rw[e3];exact List.mem_cons_of_mem _ hb
    obtain⟨p1,p2,p3⟩:=h2 b hb'
    exact⟨p1,p2,p3,λj o' _ hj=>hs.aN id j _ o' (λe=>(bF j o' hj).2 e.symm) ho (bF j o' hj).1 b hb'⟩)
  refine MP (v:=j7 τ blk.toList) ?_ ⟨H,_,KQ.set (by rw[hC.nt];exact mG) ⟨⟨true,τ,y⟩,⟨τ,y⟩,?_,qO _ _,?_⟩⟩
  ·intro w' hm
   have:=RR my (o:=0) (Us hm e1) (by rw[eB];exact hlen)
   rw[eB]at this
   simp[execOp,hv,this]
  ·rw[St.newObj,St.ak,if_pos rfl]
  ·show j7 τ blk.toList=(rX Φ d _ d).ax
   rw[qt]
 |_=>cases h
theorem qh.dF(hs:qh P C s a w H Φ)(d:Option Nat)(x:Operand):∃H',qh P C (dF aa s d x) a w H' Φ:=by
 unfold Go.Vi.dF
 split
 ·cases j4 (8000000+_) aa.mK with
  |false=>exact⟨H,hs⟩
  |true=>
   rw[cond_true]
   split
   ·rename_i id _ _
    obtain⟨H',_,_,_,h⟩:=hs.freeze id
    exact⟨H',h⟩
   ·exact⟨H,hs⟩
 ·exact⟨H,hs⟩
theorem qoE(ae:qx P aa)(hC:qD C aa){T:TypeId}{x:Operand}(hs:qh P C s a w H Φ)(hd:qK aa.nt dst=true){i f n:Nat}(hr:qi P C w H Φ s.obj (.cv i f n) (a.eval x))(h:qlk aa s dst T i n k=some r):
  ∃s',k s'=some r/\fG P C ⟨dst,.load T x,ty,pos,after,guard⟩ a w s':=by
 unfold qlk at h
 cases hq:Nat.beq i 2&&(Nat.beq (n/1000) 1&&Ub (lk aa.ty T))with
 |false=>rw[hq]at h;cases h
 |true=>
 rw[hq,cond_true]at h
 simp only[Bool.and_eq_true]at hq
 obtain⟨q1,q2,q3⟩:=hq
 obtain rfl:=Nat.eq_of_beq_eq_true q1
 have q2:=Nat.eq_of_beq_eq_true q2
 split at h
 case h_2=>cases h
 rename_i o ho
 cases hrow:o.row with
 |true=>rw[hrow]at h;cases h
 |false=>
 rw[hrow,cond_false]at h
 obtain⟨b,cv,h1,⟨h2,h3⟩,hv⟩:=hr
 obtain⟨σ,hT⟩:∃σ,lk aa.ty T=some (.ptr σ):=by
  unfold Ub at q3
  split at q3
  ·exact⟨_,by assumption⟩
  ·cases q3
 obtain⟨a_,hfz⟩:=ae.ty T _ hT
 rw[q2]at h2
 obtain⟨u,rfl⟩:∃u,cv=[u]:=by
  match cv,h2 with
  |[u],_=>exact⟨u,rfl⟩
 obtain⟨φ,hp,rfl⟩:=h3 0 u rfl
 rw[Nat.add_zero]at hp
 obtain⟨t,f',hb⟩:=hs.hok b _ h1
 refine⟨_,h,qr hs hC hd (v:=.pointer (some ⟨φ.b,0,none⟩)) ⟨o,⟨o.τ,o.x⟩,φ.b,0,ho,by rw[hrow];rfl,qO _ _,?_,rfl⟩ (λw' hm=>?_)⟩
 ·unfold jV
  rw[hrow,<-(hs.pins.1 _ _ hp).1]
  exact kV _ _ _ _
 ·have:=RR a_ (o:=0) (Us hm hb) rfl
  have gl:a.eval x = .pointer (some ⟨b,0,none⟩):=hv
  simp[execOp,gl,this]
  rfl
theorem HY(ae:qx P aa)(hC:qD C aa){T:TypeId}{x:Operand}(hs:qh P C s a w H Φ)(hd:qK aa.nt dst=true)(h:qM aa ⟨dst,.load T x,ty,pos,after,guard⟩ s k=some r):
  ∃s',k s'=some r/\fG P C ⟨dst,.load T x,ty,pos,after,guard⟩ a w s':=by
 simp only[qM]at h
 obtain⟨H,hs⟩:=hs.dF (aa:=aa) dst x
 generalize dF aa s dst x=s at h hs
 split at h
 case h_3=>cases h
 ·rename_i i f n he
  have hr:=ql hs qy he
  cases hq:Nat.beq i 0&&qmT aa T with
  |false=>
   rw[hq,cond_false]at h
   exact qoE ae hC hs hd hr h
  |true=>
   rw[hq,cond_true]at h
   rw[Bool.and_eq_true]at hq
   obtain rfl:=Nat.eq_of_beq_eq_true hq.1
   obtain⟨b,cv,h1,h2,hv⟩:=hr
   have hfT:YT P T=true:=by
    have r_:=hq.2
    unfold qmT at r_
    split at r_
    ·rename_i sp hsp
     rw[Nat.eq_of_beq_eq_true r_]
     exact(ae.self sp hsp).2.2
    ·cases r_
   obtain⟨t,f',hb⟩:=hs.hok b _ h1
   refine⟨_,h,qr hs hC hd (v:=.func (.func f) #[] (cv++[Value.pointer (some ⟨b,0,none⟩)]).toArray) ⟨b,cv,h1,h2,rfl⟩ (λw' hm=>?_)⟩
   have hc:w'.cell? ⟨b,0,none⟩=some (.func (.func f) #[] (cv++[Value.pointer (some ⟨b,0,none⟩)]).toArray):=by
    rw[qw (Us hm hb)]
    rfl
   unfold YT at hfT
   split at hfT
   ·rename_i hu
    simp[execOp,hv,Instr.loadAt,Instr.sureAddr,loadVar,isAgg,underlying,hu,hc]
   ·cases hfT
 rename_i av hne he
 clear hne
 have hr:=ql hs qy he
 split at h
 ·rename_i s' wP;exact⟨s',h,GM ae hC hs hd hr wP⟩
 rename_i wP
 clear wP
 unfold Ts at h
 split at h
 ·rename_i σ y
  cases hT:decide (lk aa.ty T=some σ)with
  |false=>rw[hT]at h;cases h
  |true=>
   rw[hT,cond_true]at h
   obtain⟨a_,_⟩:=ae.ty T _ (of_decide_eq_true hT)
   obtain⟨hf,b,o,blk,hv,hH,an⟩:=hr
   obtain⟨t,f,hb⟩:=hs.hok.cells hH
   refine⟨_,h,qr hs hC hd (v:=j7 σ (ct blk o σ.size)) ⟨hf,_,rfl,an⟩ (λw' hm=>?_)⟩
   simp[execOp,hv,RR a_ (Us hm hb) (qm.length σ an)]
 ·rename_i id p
  obtain⟨o,y,b,off,h1,h2,h3,h4,hv⟩:=hr
  rw[h1]at h
  simp only[h2,cond_false]at h
  have kM:=jH _ h3
  rw[kM]at h
  obtain⟨σ,y⟩:=y
  simp only at h kM
  cases hT:decide (lk aa.ty T=some σ.fz)with
  |false=>rw[hT]at h;cases h
  |true=>
   rw[hT,cond_true]at h
   obtain⟨a_,_⟩:=ae.ty T _ (of_decide_eq_true hT)
   have my:=qT.gw a_
   have hok:=(hs.os id o h1).1
   obtain⟨b',o',hl,aX,t',pre',c,post',f1,f',f2,e1,e2,e3,e4,e5,e6,_⟩:=hok.desc (y:=y) h3 ⟨w,_,_,h4⟩ h2
   obtain⟨rfl,rfl⟩:=jV.fN h4 (hl w (λ_ _=>rfl))
   have eB:ct aX off σ.size=c:=by rw[<-e3];exact qZ e2 (qm.length σ e6)
   have hrun:∀w',jO jA w w'->(execOp a.eval ⟨dst,.load T x,ty,pos,after,guard⟩).run P w' = .ok (.value (j7 σ c)) w':=by
    intro w' hm
    have:=RR my (o:=off) (Us hm e1) (by rw[eB];exact qm.length σ e6)
    rw[eB]at this
    simp[execOp,hv,this]
   cases hfz:σ.ay with
   |true=>
    rw[hfz,cond_true,jJ,h3]at h
    have nF:=qm.dg σ hfz e6
    subst nF
    exact⟨_,h,qr hs hC hd (v:=j7 σ c) ⟨hfz,c,rfl,e6⟩ hrun⟩
   |false=>
    rw[hfz,cond_false]at h
    refine⟨_,h,qr hs hC hd (v:=j7 σ c) ⟨o,⟨σ,y⟩,h1,h3,?_⟩ hrun⟩
    rw[h2]
    exact⟨b,off,aX,t',h4,e1,by rw[eB]⟩
 ·cases h
theorem qjd{own:Bool}{tid:TypeId}{e:Ty}{l:List e.den}{cs fp}(h:qm P (.list own tid e) w H l cs fp):∃ad cap,j7 (.list own tid e) cs = .slice ad l.length cap:=by
 cases own with
 |false=>obtain⟨_,ad,cap,rfl,_⟩:=h;exact⟨ad,cap,rfl⟩
 |true=>
  obtain⟨ax,xs,aC,rfl,_,ho,_⟩:=h
  rcases ho.2 with⟨rfl,h0⟩|⟨g,cap,cur,rfl,_⟩
  ·exact⟨none,0,by rw[h0];rfl⟩
  ·exact⟨_,cap,rfl⟩
theorem qmc(hs:qh P C s a w H Φ){av:AV}{v:Value}(hr:qi P C w H Φ s.obj av v){f:Nat->Option R}(h:QV s av f=some r):∃n,f n=some r/\∃ad cap,v = .slice ad n cap:=by
 unfold QV at h
 split at h
 ·obtain⟨_,cs,rfl,an⟩:=hr
  exact⟨_,h,qjd an⟩
 ·rename_i id p
  split at h
  case h_2=>cases h
  rename_i o ho
  rw[jJ]at h
  obtain⟨y,hy,h⟩:=Option.bind_eq_some_iff.1 h
  obtain⟨cs,fp,hv,an,_⟩:=wA hr ho (hs.os id o ho).1 hy
  obtain⟨σ,y⟩:=y
  simp only at h
  split at h
  ·rw[hv];exact⟨_,h,qjd an⟩
  ·cases h
 ·obtain⟨o,_,_,_,_,fp,an,_⟩:=hr
  refine⟨_,h,?_⟩
  obtain⟨ad,cap,e⟩:=qjd an
  exact⟨ad,cap,e⟩
 ·cases h
theorem qhh{own:Bool}{tid:TypeId}{e:Ty}{l:List e.den}{cs fp}(h:qm P (.list own tid e) w H l cs fp):∃ad cap,j7 (.list own tid e) cs = .slice ad l.length cap/\(ad=none->l.length=0):=by
 cases own with
 |false=>
  obtain⟨_,ad,cap,rfl,_,h⟩:=h
  refine⟨ad,cap,rfl,λe=>?_⟩
  rcases h with h|⟨b,o,blk,h,_⟩
  ·rw[h];rfl
  ·rw[e]at h;cases h
 |true=>
  obtain⟨ax,xs,aC,rfl,_,ho,_⟩:=h
  rcases ho.2 with⟨rfl,hz⟩|⟨g,cap,cur,rfl,_⟩
  ·have mv:List.length l=0:=hz
   exact⟨none,0,by rw[mv];rfl,λ_=>mv⟩
  ·exact⟨_,cap,rfl,λe=>by cases e⟩
theorem qnn(hs:qh P C s a w H Φ){av:AV}{v:Value}(hr:qi P C w H Φ s.obj av v){f:Nat->Option R}(h:QV s av f=some r):∃n,f n=some r/\∃ad cap,v = .slice ad n cap/\(ad=none->n=0):=by
 unfold QV at h
 split at h
 ·obtain⟨_,cs,rfl,an⟩:=hr
  exact⟨_,h,qhh an⟩
 ·rename_i id p
  split at h
  case h_2=>cases h
  rename_i o ho
  rw[jJ]at h
  obtain⟨y,hy,h⟩:=Option.bind_eq_some_iff.1 h
  obtain⟨cs,fp,hv,an,_⟩:=wA hr ho (hs.os id o ho).1 hy
  obtain⟨σ,y⟩:=y
  simp only at h
  split at h
  ·rw[hv];exact⟨_,h,qhh an⟩
  ·cases h
 ·obtain⟨o,_,_,_,_,fp,an,_⟩:=hr
  refine⟨_,h,?_⟩
  obtain⟨ad,cap,e⟩:=qhh an
  exact⟨ad,cap,e⟩
 ·cases h
theorem qjS{t:Option Ty}(h:Ht t=true):∃own tid e,t=some (.list own tid e):=by
 unfold Ht at h
 split at h
 ·exact⟨_,_,_,rfl⟩
 ·cases h
theorem Bx(ae:qx P aa)(hC:qD C aa){op:BinOp}{T T':TypeId}{x y:Operand}(hs:qh P C s a w H Φ)(hd:qK aa.nt dst=true)(h:qM aa ⟨dst,.binOp op T x y T',ty,pos,after,guard⟩ s k=some r):
  ∃s',k s'=some r/\fG P C ⟨dst,.binOp op T x y T',ty,pos,after,guard⟩ a w s':=by
 simp only[qM]at h
 cases hq:Hl y&&Ht (lk aa.ty T)with
 |false=>
  rw[hq,cond_false]at h
  exact qos ae hC hs hd h
 |true=>
  rw[hq,cond_true]at h
  rw[Bool.and_eq_true]at hq
  obtain⟨hy,hT⟩:=hq
  obtain⟨own,tid,e,hlk⟩:=qjS hT
  have hu:=(ae.ty T _ hlk).1.list.1
  have hyv:a.eval y = .slice none 0 0:=by
   unfold Hl at hy
   split at hy
   ·rfl
   ·cases hy
  split at h
  case h_2=>cases h
  rename_i av he
  cases iK:qkW s av with
  |some b=>
   rw[iK]at h
   have hr:=ql hs qy he
   unfold qkW at iK
   split at iK
   case h_2=>cases iK
   rename_i id
   split at iK
   case h_2=>cases iK
   rename_i o ho
   cases hrow:o.row with
   |false=>rw[hrow]at iK;cases iK
   |true=>
   rw[hrow,cond_true]at iK
   obtain⟨o2,y2,q1,_,q3⟩:=hr
   rw[ho]at q1
   cases q1
   simp only[hrow,List.isEmpty_nil,Bool.and_self]at q3
   have hb:∃ad n cap,a.eval x = .slice ad n cap/\ad.isNone=b:=by
    cases h1:Mu id true with
    |true=>
     rw[h1]at iK
     cases iK
     obtain⟨ad,n,cap,e⟩:=qix h1 (hs.pins.2 id)
     exact⟨some ad,n,cap,by rw[q3,e],rfl⟩
    |false=>
     rw[h1,cond_false]at iK
     cases h2:Mu id false with
     |true=>
      rw[h2]at iK
      cases iK
      have e:(Φ id).ax = .slice none 0 0:=qix h2 (hs.pins.2 id)
      exact⟨none,0,0,by rw[q3,e],rfl⟩
     |false=>rw[h2]at iK;cases iK
   obtain⟨ad,n,cap,hv,rfl⟩:=hb
   simp only at h
   unfold Um at h
   split at h
   ·exact⟨_,h,qr hs hC hd (qi.bC w H Φ s.obj _) (λw' _=>by simp[execOp,hv,hyv,eqGuard,binOp,run_equal_slice_nil _ T tid _ _ _ hu])⟩
   ·exact⟨_,h,qr hs hC hd (qi.bC w H Φ s.obj _) (λw' _=>by simp[execOp,hv,hyv,eqGuard,binOp,run_equal_slice_nil _ T tid _ _ _ hu])⟩
   ·cases h
  |none=>
  rw[iK]at h
  simp only at h
  obtain⟨n,h,ad,cap,hv,hn⟩:=qnn hs (ql hs qy he) h
  have hk:Um op ad.isNone (λb=>k (s.ah dst (.val .bool b)))=some r:=by
   unfold BC at h
   cases hn0:Nat.beq n 0 with
   |true=>
    rw[hn0,cond_true]at h
    exact Ui h ad.isNone trivial
   |false=>
    rw[hn0,cond_false]at h
    have hne:=Nat.ne_of_beq_eq_false hn0
    cases ad with
    |none=>exact absurd (hn rfl) hne
    |some _=>exact h
  unfold Um at hk
  split at hk
  ·exact⟨_,hk,qr hs hC hd (qi.bC w H Φ s.obj _) (λw' _=>by simp[execOp,hv,hyv,eqGuard,binOp,run_equal_slice_nil _ T tid _ _ _ hu])⟩
  ·exact⟨_,hk,qr hs hC hd (qi.bC w H Φ s.obj _) (λw' _=>by simp[execOp,hv,hyv,eqGuard,binOp,run_equal_slice_nil _ T tid _ _ _ hu])⟩
  ·cases hk
theorem Ng(ae:qx P aa)(hC:qD C aa){c:Call}(hc:c.callee = .builtin .len)(hs:qh P C s a w H Φ)(hd:qK aa.nt dst=true)(h:qM aa ⟨dst,.call c,ty,pos,after,guard⟩ s k=some r):
  ∃s',k s'=some r/\fG P C ⟨dst,.call c,ty,pos,after,guard⟩ a w s':=by
 simp only[qM,hc]at h
 split at h
 case h_2=>cases h
 rename_i x T hx hT
 split at h
 case h_2=>cases h
 rename_i av he
 have hr:=ql hs qy he
 cases hl:Ht (lk aa.ty T)with
 |false=>rw[hl]at h;cases h
 |true=>
  rw[hl,cond_true]at h
  obtain⟨n,h,ad,cap,hv⟩:=qmc hs hr h
  obtain⟨own,tid,e,hlk⟩:∃own tid e,lk aa.ty T=some (.list own tid e):=by
   unfold Ht at hl
   split at hl
   ·exact⟨_,_,_,‹_›⟩
   ·cases hl
  have hu:=(ae.ty T _ hlk).1.list.1
  have e2:c=⟨.builtin .len,#[x],#[T]⟩:=by
   obtain⟨c1,c2,c3⟩:=c
   simp only at hc hx hT
   rw[hc,<-Array.toArray_toList (xs:=c2),hx,<-Array.toArray_toList (xs:=c3),hT]
  subst e2
  exact⟨_,h,qr hs hC hd (qi.bc w H Φ s.obj _ _) (λw' _=>by simp[execOp,resolve,invoke,builtin,Builtin.len_,hv,run_underlying hu,goInt])⟩
theorem qnj(x y:Int):max x y=if y>x then y else x:=by omega
theorem min_eq(x y:Int):min x y=if y<x then y else x:=by omega
theorem qkG(w:World)(ats:Array TypeId)(t:TypeId)(k:IntKind)(x y z:Int):(Builtin.max_ ats t #[.int k x,.int k y,.int k z]).run P w = .ok (.int k (max (max x y) z)) w:=by
 rw[qnj (max x y) z,qnj x y]
 simp[Builtin.max_,Builtin.max2]
theorem HX(_hcfg:qx P aa)(hC:qD C aa){c:Call}(hc:c.callee = .builtin .max)(hs:qh P C s a w H Φ)(hd:qK aa.nt dst=true){i j l:IntKind}{m n q:Int}(he:zg s (λ_=>none) c.args.toList 0=some [.val (.int i) m,.val (.int j) n,.val (.int l) q])
  (h:(bif (i==j)&&(i==l)then k (s.ah dst (.val (.int i) (max (max m n) q)))else none)=some r):
  ∃s',k s'=some r/\fG P C ⟨dst,.call c,ty,pos,after,guard⟩ a w s':=by
 have hr:=jY hs (λ_=>qy) he
 cases hij:(i==j)&&(i==l)with
 |false=>rw[hij]at h;cases h
 |true=>
  rw[hij,cond_true]at h
  rw[Bool.and_eq_true]at hij
  have hij':i=j:=by simpa using hij.1
  have abi:i=l:=by simpa using hij.2
  subst hij'
  subst abi
  obtain⟨c1,c2,c3⟩:=c
  simp only at hc hr
  subst hc
  obtain⟨x,y,z,hxy⟩:∃x y z,c2.toList=[x,y,z]:=by
   match c2.toList,hr with
   |[],hr=>exact hr.elim
   |[_],hr=>exact hr.2.elim
   |[_,_],hr=>exact hr.2.2.elim
   |[x,y,z],_=>exact⟨x,y,z,rfl⟩
   |_::_::_::_::_,hr=>exact hr.2.2.2.elim
  rw[hxy]at hr
  have v1:=hr.1.int
  have v2:=hr.2.1.int
  have v3:=hr.2.2.1.int
  have e2:c2 = #[x,y,z]:=by rw[<-Array.toArray_toList (xs:=c2),hxy]
  subst e2
  exact⟨_,h,qr hs hC hd (qi.bc w H Φ s.obj _ _) (λw' _=>by simp[execOp,resolve,invoke,builtin,v1,v2,v3,qkG])⟩
theorem Nf(_hcfg:qx P aa)(hC:qD C aa){c:Call}(hc:c.callee = .builtin .max)(hs:qh P C s a w H Φ)(hd:qK aa.nt dst=true)(h:qM aa ⟨dst,.call c,ty,pos,after,guard⟩ s k=some r):
  ∃s',k s'=some r/\fG P C ⟨dst,.call c,ty,pos,after,guard⟩ a w s':=by
 simp only[qM,hc]at h
 split at h
 case h_3=>cases h
 case h_2=>exact HX _hcfg hC hc hs hd ‹_› h
 rename_i i m j n he
 have hr:=jY hs (λ_=>qy) he
 cases hij:(i==j)with
 |false=>rw[hij]at h;cases h
 |true=>
  rw[hij,cond_true]at h
  have hij':i=j:=by simpa using hij
  subst hij'
  obtain⟨c1,c2,c3⟩:=c
  simp only at hc hr
  subst hc
  obtain⟨x,y,hxy⟩:∃x y,c2.toList=[x,y]:=by
   match c2.toList,hr with
   |[],hr=>exact hr.elim
   |[_],hr=>exact hr.2.elim
   |[x,y],_=>exact⟨x,y,rfl⟩
   |_::_::_::_,hr=>exact hr.2.2.elim
  rw[hxy]at hr
  have v1:=hr.1.int
  have v2:=hr.2.1.int
  have e2:c2 = #[x,y]:=by rw[<-Array.toArray_toList (xs:=c2),hxy]
  subst e2
  refine⟨_,h,qr hs hC hd (qi.bc w H Φ s.obj _ _) (λw' _=>?_)⟩
  rw[qnj]
  simp[execOp,resolve,invoke,builtin,v1,v2,run_max_int2]
theorem Nd(_hcfg:qx P aa)(hC:qD C aa){c:Call}(hc:c.callee = .builtin .min)(hs:qh P C s a w H Φ)(hd:qK aa.nt dst=true)(h:qM aa ⟨dst,.call c,ty,pos,after,guard⟩ s k=some r):
  ∃s',k s'=some r/\fG P C ⟨dst,.call c,ty,pos,after,guard⟩ a w s':=by
 simp only[qM,hc]at h
 split at h
 case h_2=>cases h
 rename_i i m j n he
 have hr:=jY hs (λ_=>qy) he
 cases hij:(i==j)with
 |false=>rw[hij]at h;cases h
 |true=>
  rw[hij,cond_true]at h
  have hij':i=j:=by simpa using hij
  subst hij'
  obtain⟨c1,c2,c3⟩:=c
  simp only at hc hr
  subst hc
  obtain⟨x,y,hxy⟩:∃x y,c2.toList=[x,y]:=by
   match c2.toList,hr with
   |[],hr=>exact hr.elim
   |[_],hr=>exact hr.2.elim
   |[x,y],_=>exact⟨x,y,rfl⟩
   |_::_::_::_,hr=>exact hr.2.2.elim
  rw[hxy]at hr
  have v1:=hr.1.int
  have v2:=hr.2.1.int
  have e2:c2 = #[x,y]:=by rw[<-Array.toArray_toList (xs:=c2),hxy]
  subst e2
  refine⟨_,h,qr hs hC hd (qi.bc w H Φ s.obj _ _) (λw' _=>?_)⟩
  rw[min_eq]
  simp[execOp,resolve,invoke,builtin,v1,v2,run_min_int2]
theorem qfn{tid:Nat}{e:Ty}{o:Bool}{l:List e.den}{x:Operand}{a:Act}{τ:Option Ty}{s:St}(hx:∃v,x = .const v)(he:qQ s τ x=some (.val (.list o tid e) l)):
  a.eval x = .slice none 0 0/\l=[]:=by
 obtain⟨v,rfl⟩:=hx
 simp only[qQ]at he
 unfold TZ at he
 split at he
 ·cases he
 ·cases he
 ·split at he
  ·cases he;exact⟨rfl,rfl⟩
  ·cases he
 ·split at he
  ·cases he
  ·cases he
 ·cases he
 ·cases he
 ·cases he
 ·cases he
theorem qh.Dt(hs:qh P C s a w H Φ)(hC:qD C aa){id:Nat}{tid:TypeId}{e:Ty}{l:List e.den}{v:Value}(hr:qi P C w H Φ s.obj (.d_ id [] tid e l) v){o:Obj}(ho:s.obj id=some o)(hrow:o.row=true)(aF:id<4000000):
  ∃fp,qh P C (s.newObj id true (.list true tid e) l) a w H (rX Φ id ⟨0,v,fp⟩):=by
 obtain⟨o',h1,h3,h4,fp,h0,h5,h6⟩:=hr
 rw[ho]at h1
 cases h1
 refine⟨fp,hs.newObj (jO.refl _ _) (hC.gQ id (Nat.lt_trans aF (by decide))) (uE aF) ⟨by simpa[Ty.eM,Ty.aD]using h3,h0,rfl,[v],rfl,h5⟩ ?_⟩
 intro b hb
 obtain⟨hlt,h7⟩:=h6 b hb
 rcases h7 with hf|q1
 ·exact⟨hf.fz,hf.may,hlt,λj o' _ hj=>hf.obj j o' hj⟩
 ·unfold ia at q1
  rw[hrow]at q1
  simp only[List.isEmpty_nil,Bool.and_self]at q1
  obtain⟨q3,q4,q5⟩:=(hs.os id o ho).2 b q1
  exact⟨q3,q4,hlt,λj o' hj cu=>hs.aN id j o o' (λe=>hj e.symm) ho cu b q1⟩
theorem qh.vG(hs:qh P C s a w H Φ)(hC:qD C aa){id:Nat}{tid:TypeId}{e:Ty}{l:List e.den}{v:Value}(hr:qi P C w H Φ s.obj (.d_ id [] tid e l) v){o:Obj}(ho:s.obj id=some o)(hrow:o.row=true){d:Nat}(hd:d<4000000):
  ∃fp,qh P C (((s.kill id).setObj id none).newObj d true (.list true tid e) l) a w H (rX Φ d ⟨0,v,fp⟩):=by
 obtain⟨o',h1,h3,h4,fp,h0,h5,h6⟩:=hr
 rw[ho]at h1
 cases h1
 have bF:∀j o',((s.kill id).setObj id none).obj j=some o'->s.obj j=some o'/\j≠id:=by
  intro j o' hj
  rw[St.ak]at hj
  split at hj
  ·cases hj
  ·rename_i hne;exact⟨hj,λe=>hne e.symm⟩
 refine⟨fp,(hs.remove id).newObj (jO.refl _ _) (hC.gQ d (Nat.lt_trans hd (by decide))) (uE hd) ⟨by simpa[Ty.eM,Ty.aD]using h3,h0,rfl,[v],rfl,h5⟩ ?_⟩
 intro b hb
 obtain⟨hlt,h7⟩:=h6 b hb
 rcases h7 with hf|q1
 ·exact⟨hf.fz,hf.may,hlt,λj o' _ hj=>hf.obj j o' (bF j o' hj).1⟩
 ·unfold ia at q1
  rw[hrow]at q1
  simp only[List.isEmpty_nil,Bool.and_self]at q1
  obtain⟨q3,q4,q5⟩:=(hs.os id o ho).2 b q1
  exact⟨q3,q4,hlt,λj o' _ cu=>hs.aN id j o o' (λe=>(bF j o' cu).2 e.symm) ho (bF j o' cu).1 b q1⟩
theorem qh.fe(hs:qh P C s a w H Φ)(d:Option Nat)(x:Operand):∃H',qh P C (fe aa s d x) a w H' Φ:=by
 unfold Go.Vi.fe
 split
 ·exact⟨H,hs⟩
 ·exact⟨H,hs⟩
 ·split
  ·obtain⟨H',_,_,_,h⟩:=hs.freeze _
   exact⟨H',h⟩
  ·exact⟨H,hs⟩
 ·exact⟨H,hs⟩
theorem qh.ug(hs:qh P C s a w H Φ)(x:Operand):∃H',qh P C (ug s x) a w H' Φ:=by
 unfold Go.Vi.ug
 split
 ·split
  ·rename_i o _
   cases o.row&&_ with
   |true=>exact⟨H,hs⟩
   |false=>
    obtain⟨H',_,_,_,h⟩:=hs.freeze _
    exact⟨H',h⟩
  ·exact⟨H,hs⟩
 ·exact⟨H,hs⟩
theorem Zz(ae:qx P aa)(hC:qD C aa){x:Operand}(hs:qh P C s a w H Φ)(hd:qK aa.nt dst=true){av:AV}(he:qQ s (lk aa.ty ty) x=some av)(h:Rs s dst x av k=some r):
  ∃s',k s'=some r/\fG P C ⟨dst,.assign x,ty,pos,after,guard⟩ a w s':=by
 have hrun:∀w',jO jA w w'->(execOp a.eval ⟨dst,.assign x,ty,pos,after,guard⟩).run P w' = .ok (.value (a.eval x)) w':=λw' _=>rfl
 have hr:=ql hs (ae.fz ty) he
 unfold Rs at h
 split at h
 ·rename_i v own tid e l
  split at h
  case h_2=>cases h
  rename_i d
  cases hfn:e.aD with
  |false=>rw[hfn]at h;cases h
  |true=>
  rw[hfn,cond_true]at h
  obtain⟨hv,rfl⟩:=qfn (a:=a) ⟨v,rfl⟩ he
  have dK:d<C.nt:=by rw[hC.nt];exact Eq.mp Nat.blt_eq hd
  have hd2:d<4000000:=by have:=ae.small;rw[<-hC.nt]at this;omega
  have hfz:=hr.1
  simp only[Ty.ay,Bool.and_eq_true]at hfz
  have hn:qh P C (s.newObj d true (.list true tid e) []) a w H (rX Φ d ⟨0,.slice none 0 0,[]⟩):=
   hs.newObj (jO.refl _ _) (hC.gQ d (Nat.lt_trans hd2 (by decide))) (uE hd2) ⟨by simpa[Ty.eM,Ty.aD]using hfn,by simp,rfl,[.slice none 0 0],rfl,⟨.slice none 0 0,[],[],rfl,rfl,World.ownsRow_nil w 0 tid e.size,rfl,rfl⟩⟩ (by simp)
  rw[hv]at hrun
  refine⟨_,h,MP hrun ⟨H,_,hn.set dK (v:=.slice none 0 0) ⟨⟨true,.list true tid e,[]⟩,⟨.list true tid e,[]⟩,?_,qO _ _,?_⟩⟩⟩
  ·rw[St.newObj,St.ak,if_pos rfl]
  ·simp only[List.isEmpty_nil,Bool.and_self,qt]
 ·rename_i x' id tid e l
  split at h
  case h_2=>cases h
  rename_i o ho
  cases hrw:o.row&&Nat.blt id 4000000 with
  |false=>
   rw[hrw,cond_false]at h
   split at h
   case h_2=>cases h
   rename_i d
   cases Iz:o.row && !Nat.beq id d with
   |false=>rw[Iz]at h;cases h
   |true=>
   rw[Iz,cond_true]at h
   rw[Bool.and_eq_true]at Iz
   have dK:d<C.nt:=by rw[hC.nt];exact Eq.mp Nat.blt_eq hd
   have hd2:d<4000000:=by have:=ae.small;rw[<-hC.nt]at this;omega
   obtain⟨_,hn⟩:=hs.vG hC hr ho Iz.1 hd2
   refine⟨_,h,MP hrun ⟨H,_,hn.set dK ⟨⟨true,.list true tid e,l⟩,⟨.list true tid e,l⟩,?_,qO _ _,?_⟩⟩⟩
   ·rw[St.newObj,St.ak,if_pos rfl]
   ·simp only[List.isEmpty_nil,Bool.and_self,qt]
  |true=>
   rw[hrw,cond_true]at h
   rw[Bool.and_eq_true]at hrw
   split at h
   case h_2=>cases h
   have aF:id<4000000:=Eq.mp Nat.blt_eq hrw.2
   obtain⟨_,hn⟩:=hs.Dt hC hr ho hrw.1 aF
   refine⟨_,h,MP hrun ⟨H,_,hn.ah (by rw[hC.nt];exact hd) ⟨⟨true,.list true tid e,l⟩,⟨.list true tid e,l⟩,?_,qO _ _,?_⟩⟩⟩
   ·rw[St.newObj,St.ak,if_pos rfl]
   ·simp only[List.isEmpty_nil,Bool.and_self,qt]
 ·exact⟨_,h,qr hs hC hd hr hrun⟩
theorem qm8(ae:qx P aa)(hC:qD C aa){x:Operand}(hs:qh P C s a w H Φ)(hd:qK aa.nt dst=true){av:AV}(he:qQ s (lk aa.ty ty) x=some av)(h:qkX s dst x av k=some r):
  ∃s',k s'=some r/\fG P C ⟨dst,.assign x,ty,pos,after,guard⟩ a w s':=by
 unfold qkX at h
 split at h
 ·rename_i v own tid e l d
  have hrun:∀w',jO jA w w'->(execOp a.eval ⟨some d,.assign (.const v),ty,pos,after,guard⟩).run P w' = .ok (.value (a.eval (.const v))) w':=λw' _=>rfl
  cases hfn:e.aD with
  |false=>rw[hfn]at h;cases h
  |true=>
  rw[hfn,cond_true]at h
  obtain⟨hv,rfl⟩:=qfn (a:=a) ⟨v,rfl⟩ he
  have dK:d<C.nt:=by rw[hC.nt];exact Eq.mp Nat.blt_eq hd
  have hd2:d<3000000:=by have:=ae.small;rw[<-hC.nt]at this;omega
  have hn:qh P C (s.newObj (7000000+d) true (.list true tid e) []) a w H (rX Φ (7000000+d) ⟨0,.slice none 0 0,[]⟩):=
   hs.newObj (jO.refl _ _) (hC.gQ (7000000+d) (by omega)) (qjA (nn:=false) hd2 rfl) ⟨by simpa[Ty.eM,Ty.aD]using hfn,by simp,rfl,[.slice none 0 0],rfl,⟨.slice none 0 0,[],[],rfl,rfl,World.ownsRow_nil w 0 tid e.size,rfl,rfl⟩⟩ (by simp)
  rw[hv]at hrun
  refine⟨_,h,MP hrun ⟨H,_,hn.set dK (v:=.slice none 0 0) ⟨⟨true,.list true tid e,[]⟩,⟨.list true tid e,[]⟩,?_,qO _ _,?_⟩⟩⟩
  ·rw[St.newObj,St.ak,if_pos rfl]
  ·simp only[List.isEmpty_nil,Bool.and_self,qt]
 ·exact Zz ae hC hs hd he h
theorem qlX(ae:qx P aa)(hC:qD C aa){x:Operand}(hs:qh P C s a w H Φ)(hd:qK aa.nt dst=true){av:AV}(he:qQ s (lk aa.ty ty) x=some av)(h:qi4 s dst x av k=some r):
  ∃s',k s'=some r/\fG P C ⟨dst,.assign x,ty,pos,after,guard⟩ a w s':=by
 unfold qi4 at h
 split at h
 ·rename_i id d
  split at h
  case h_2=>cases h
  rename_i o ho
  cases hq:o.row && !Nat.beq id d with
  |false=>rw[hq,cond_false]at h;exact Zz ae hC hs hd he h
  |true=>
  rw[hq,cond_true]at h
  rw[Bool.and_eq_true]at hq
  have hr:=ql hs (ae.fz ty) he
  have hrun:∀w',jO jA w w'->(execOp a.eval ⟨some d,.assign x,ty,pos,after,guard⟩).run P w' = .ok (.value (a.eval x)) w':=λw' _=>rfl
  have mG:d<aa.nt:=Eq.mp Nat.blt_eq hd
  have hd2:d<4000000:=Nat.lt_of_lt_of_le mG (Nat.le_trans ae.small (by decide))
  obtain⟨h1,h2⟩:=hs.os id o ho
  obtain⟨row,τ,y⟩:=o
  cases row with
  |false=>cases hq.1
  |true=>
  have bF:∀j o,((s.kill id).setObj id none).obj j=some o->s.obj j=some o/\j≠id:=by
   intro j o hj
   rw[St.ak]at hj
   split at hj
   ·cases hj
   ·rename_i hne;exact⟨hj,λe=>hne e.symm⟩
  have KQ:=(hs.remove id).newObj (jO.refl _ _) (hC.gQ d (Nat.lt_trans hd2 (by decide))) (uE hd2) (row:=true) (τ:=τ) (x:=y) (φ:=Φ id) h1 (by
   intro b hb
   obtain⟨p1,p2,p3⟩:=h2 b hb
   exact⟨p1,p2,p3,λj o' _ hj=>hs.aN id j _ o' (λe=>(bF j o' hj).2 e.symm) ho (bF j o' hj).1 b hb⟩)
  obtain⟨o',z,q1,_,q3⟩:=hr
  rw[ho]at q1
  cases q1
  refine⟨_,h,MP hrun ⟨H,_,KQ.set (by rw[hC.nt];exact mG) ⟨⟨true,τ,y⟩,⟨τ,y⟩,?_,qO _ _,?_⟩⟩⟩
  ·rw[St.newObj,St.ak,if_pos rfl]
  ·simp only[List.isEmpty_nil,Bool.and_self,qt]
   exact q3
 ·exact Zz ae hC hs hd he h
theorem qnd(ae:qx P aa)(hC:qD C aa){x:Operand}(hs:qh P C s a w H Φ)(hd:qK aa.nt dst=true)(h:qjD aa s dst ty x k=some r):
  ∃s',k s'=some r/\fG P C ⟨dst,.assign x,ty,pos,after,guard⟩ a w s':=by
 have hrun:∀w',jO jA w w'->(execOp a.eval ⟨dst,.assign x,ty,pos,after,guard⟩).run P w' = .ok (.value (a.eval x)) w':=λw' _=>rfl
 unfold qjD at h
 split at h
 case h_2=>cases h
 rename_i av he
 have hr:=ql hs (ae.fz ty) he
 cases Lh:qjg (dst.bind (lk aa.fl))with
 |true=>
  rw[Lh,cond_true]at h
  exact qm8 ae hC hs hd he h
 |false=>
 rw[Lh,cond_false]at h
 cases mE:qjf (dst.bind (lk aa.fl))with
 |true=>
  rw[mE,cond_true]at h
  exact qlX ae hC hs hd he h
 |false=>
 rw[mE,cond_false]at h
 cases fc:(dst.bind (lk aa.fl)).isSome with
 |true=>
  rw[fc,cond_true]at h
  exact⟨_,h,qr hs hC hd hr hrun⟩
 |false=>
 rw[fc,cond_false]at h
 exact Zz ae hC hs hd he h
theorem qot(ae:qx P aa)(hC:qD C aa){x:Operand}(hs:qh P C s a w H Φ)(hd:qK aa.nt dst=true)(h:qM aa ⟨dst,.assign x,ty,pos,after,guard⟩ s k=some r):
  ∃s',k s'=some r/\fG P C ⟨dst,.assign x,ty,pos,after,guard⟩ a w s':=by
 simp only[qM]at h
 obtain⟨H',hs'⟩:=hs.fe (aa:=aa) dst x
 exact qnd ae hC hs' hd h
end
end Go.Vi
namespace Go.Vi
section
variable {P:Program} {C:cM} {aa:jB} {R:Type} {r:R} {s:St} {a:Act} {w:World} {H:FH} {Φ:Nat->qH} {dst:Option Nat} {ty:TypeId} {pos:String} {after:Array Edge} {guard:Option (Nat×Bool)} {k:St->Option R}
theorem MH:(τ:Ty)->∀{x:τ.den} {p:List qu} {y},qU τ x p=some y->j6 τ x p y.1 y.2=some x
 |.pair a b,x,p,y,h=>by
  match p with
  |[]=>cases h;simp[j6,qF]
  |.L::q=>simp only[j6,MH a h,Option.map_some]
  |.R::q=>simp only[j6,MH b h,Option.map_some]
  |.I _::_=>cases h
 |.str t,x,p,y,h=>by
  match p with
  |[]=>cases h;simp[j6,qF]
  |s::q=>exact MH t h
 |.list true tid e,x,p,y,h=>by
  match p with
  |[]=>cases h;simp[j6,qF]
  |.L::_=>cases h
  |.R::_=>cases h
  |.I i::r=>
   simp only[qU,j6]at h ⊢
   split at h
   ·rename_i hi
    rw[if_pos hi]
    obtain⟨z,hz,h⟩:=Option.bind_eq_some_iff.1 h
    rw[hz]
    simp only[Option.bind_some,MH e h,Option.map_some]
    congr 1
    apply List.ext_getElem?
    intro j
    rw[List.getElem?_set]
    split
    ·rename_i e;subst e;split<;>simp_all
    ·rfl
   ·cases h
 |.arr n e,x,p,y,h=>by
  match p with
  |[]=>cases h;simp[j6,qF]
  |.L::_=>cases h
  |.R::_=>cases h
  |.I i::r=>
   simp only[qU,j6]at h ⊢
   split at h
   ·rename_i hi
    rw[if_pos hi]
    obtain⟨z,hz,h⟩:=Option.bind_eq_some_iff.1 h
    rw[hz]
    simp only[Option.bind_some,MH e h,Option.map_some]
    congr 1
    apply List.ext_getElem?
    intro j
    rw[List.getElem?_set]
    split
    ·rename_i e;subst e;split<;>simp_all
    ·rfl
   ·cases h
 |.op t,x,p,y,h=>by
  match p with
  |[]=>cases h;simp[j6,qF]
  |.L::_=>cases h
  |.R::_=>cases h
  |.I i::r=>
   simp only[qU,j6]at h ⊢
   obtain⟨z,rfl,h⟩:=Option.bind_eq_some_iff.1 h
   simp only[Option.bind_some,MH t h,Option.map_some]
 |.int _,x,p,_,h=>by cases p<;>cases h;simp[j6,qF]
 |.bool,x,p,_,h=>by cases p<;>cases h;simp[j6,qF]
 |.list false _ _,x,p,_,h=>by cases p<;>cases h;simp[j6,qF]
 |.ptr _,x,p,_,h=>by cases p<;>cases h;simp[j6,qF]
 |.fn _ _,x,p,_,h=>by cases p<;>cases h;simp[j6,qF]
 |.bQ _ _ _,x,p,_,h=>by cases p<;>cases h;simp[j6,qF]
 |.ext _ _ _ _,x,p,_,h=>by cases p<;>cases h;simp[j6,qF]
def FY(P:Program)(w:World)(H:FH)(e:Ty)(l:List e.den)(v:Value):Prop:=
 (l=[]/\v = .slice none 0 0)\/∃b o cap xs,v = .slice (some ⟨b,o,none⟩) l.length cap/\qd (qm P e w H) l xs []/\∀j u,xs[j]? = some u->w.cell? ((⟨b,o,none⟩:Addr).add j)=some u
theorem qgS{b o n:Nat}{blk:Array Value}{t:TypeId}{f:Nat×Nat}(hb:w.heap[b]? = some (.cells blk t f)):∀j u,(ct blk o n)[j]? = some u->w.cell? ((⟨b,o,none⟩:Addr).add j)=some u:=by
 intro j u hj
 unfold ct at hj
 rw[List.getElem?_take]at hj
 split at hj
 ·rw[Addr.fB,qw hb,<-Array.getElem?_toList]
  rw[List.getElem?_drop]at hj
  exact hj
 ·cases hj
theorem qm.elems{own:Bool}{tid:TypeId}{e:Ty}(he:e.ay=true)(hok:cI H w){l:List e.den}{cs fp}(h:qm P (.list own tid e) w H l cs fp):FY P w H e l (j7 (.list own tid e) cs)\/(l=[]/\∃ad cap,j7 (.list own tid e) cs = .slice ad 0 cap):=by
 cases own with
 |false=>
  obtain⟨_,ad,cap,rfl,hc,hl⟩:=h
  rcases hl with rfl|⟨b,o,blk,rfl,hH,hch⟩
  ·exact .inr ⟨rfl,ad,cap,rfl⟩
  ·obtain⟨t,f,hb⟩:=hok.cells hH
   exact .inl (.inr ⟨b,o,cap,_,rfl,hch,qgS hb⟩)
 |true=>
  obtain⟨ax,xs,aC,rfl,_,ho,hch⟩:=h
  have hf:=qd.iE (λ_ _ _ hh=>qm.dg e he hh) hch
  subst hf
  rcases ho.2 with⟨rfl,h0⟩|⟨g,cap,cur,rfl,_,hg,_,_,_,cC⟩
  ·exact .inl (.inl ⟨List.length_eq_zero_iff.1 h0,rfl⟩)
  ·refine .inl (.inr ⟨g,0,cap,xs,rfl,hch,?_⟩)
   rw[<-cC,<-Rz]
   exact qgS hg
theorem Zp{b c:Bool}{tid Ta:Nat}{σ e:Ty}{l:List σ.den}{y:List e.den}(h:qF (.list b tid σ) (.list c Ta e) l=some y):b=c/\tid=Ta/\∃he:σ=e,y=he▸l:=by
 obtain⟨e1,h2⟩:=qg h
 have e2:=e1
 injection e2 with e3 e4 e5
 subst e3;subst e4;subst e5
 exact⟨rfl,rfl,rfl,h2⟩
theorem Zm(hs:qh P C s a w H Φ){av:AV}{v:Value}(hr:qi P C w H Φ s.obj av v){e:Ty}(he:e.ay=true){f:List e.den->Option R}(h:Rc s av e f=some r):
  ∃l,f l=some r/\(FY P w H e l v\/(l=[]/\∃ad cap,v = .slice ad 0 cap)):=by
 unfold Rc at h
 split at h
 ·rename_i o tid σ l
  rw[qj]at h
  replace h:=Option.bind_eq_some_iff.1 h
  obtain⟨y,hy,h⟩:=h
  obtain⟨_,_,rfl,rfl⟩:=Zp hy
  obtain⟨_,cs,rfl,an⟩:=hr
  exact⟨_,h,qm.elems he hs.hok an⟩
 ·rename_i id p
  split at h
  case h_2=>cases h
  rename_i o ho
  rw[jJ]at h
  obtain⟨y,hy,h⟩:=Option.bind_eq_some_iff.1 h
  obtain⟨cs,fp,hv,an,_⟩:=wA hr ho (hs.os id o ho).1 hy
  obtain⟨σ,y⟩:=y
  simp only at h
  split at h
  ·rw[qj]at h
   replace h:=Option.bind_eq_some_iff.1 h
   obtain⟨y,hy',h⟩:=h
   obtain⟨_,_,rfl,rfl⟩:=Zp hy'
   rw[hv]
   exact⟨_,h,qm.elems he hs.hok an⟩
  ·cases h
 ·rename_i id p tid σ l
  rw[qj]at h
  replace h:=Option.bind_eq_some_iff.1 h
  obtain⟨y,hy,h⟩:=h
  obtain⟨_,_,rfl,rfl⟩:=Zp hy
  obtain⟨o,_,_,_,fp,_,an,_⟩:=hr
  refine⟨_,h,?_⟩
  have:=qm.elems he hs.hok an
  exact this
 ·cases h
theorem FY.one{e:Ty}{l:List e.den}{xs:List Value}(h:qd (qm P e w H) l xs []):∀u∈xs,u.oneCell'=true:=qd.all (λ_ _ _ hh=>qm.one e hh) h
def DR(w:World)(size:Nat)(x:Value)(m:Nat)(news:List Value):Prop:=
 (m=0/\news=[]/\∃ad cap,x = .slice ad 0 cap)\/∃b o cap,x = .slice (some ⟨b,o,none⟩) m cap/\news.length=m*size/\∀j u,news[j]? = some u->w.cell? ((⟨b,o,none⟩:Addr).add j)=some u
theorem FY.raw{e:Ty}{l:List e.den}{v:Value}(h:FY P w H e l v\/(l=[]/\∃ad cap,v = .slice ad 0 cap)):∃news,DR w e.size v l.length news/\qd (qm P e w H) l news []:=by
 rcases h with(⟨rfl,rfl⟩|⟨b,o,cap,xs,rfl,hch,hc⟩)|⟨rfl,ad,cap,rfl⟩
 ·exact⟨[],.inl ⟨rfl,rfl,none,0,rfl⟩,rfl,rfl⟩
 ·exact⟨xs,.inr ⟨b,o,cap,rfl,qd.length (λ_ _ _ hh=>qm.length e hh) hch,hc⟩,hch⟩
 ·exact⟨[],.inl ⟨rfl,rfl,ad,cap,rfl⟩,rfl,rfl⟩
theorem qdx{t e:TypeId}{τ:Ty}(hu:P.underlying t=some (.slice e))(he:qT P e τ)(ty:TypeId){v:Value}{n:Nat}{xs:List Value}(hown:w.ownsRow 0 e τ.size v n xs)
  {m:Nat} {news:List Value} {x:Value} (hx:DR w τ.size x m news) (h1:∀u∈news,u.oneCell'=true) (hlen:n+m<=274877906944):
  ∃v' w',(Builtin.append_ #[t,t] ty #[v,x]).run P w = .ok v' w'/\w'.ownsRow 0 e τ.size v' (n+m) (xs++news)/\w'.ownsRow 0 e τ.size v n xs/\w.grownBy w' v.ownBlock/\
   (v'.ownBlock=v.ownBlock\/∃g,v'.ownBlock=some g/\w.heap.size<=g/\g<w'.heap.size):=by
 obtain⟨i,hi,hsz,hpos,hby,hz⟩:=he.info
 have hzs:(j7 τ τ.zeroCells).cells.size=τ.size:=by
  rw[<-Array.length_toList,Bc (by rintro x y rfl;exact he.bT) (Ty.aA τ) (Ty.dm τ),Ty.aA]
 have hnone:m=0->news=[]->∀ad cap,x = .slice ad 0 cap->∃v' w',(Builtin.append_ #[t,t] ty #[v,x]).run P w = .ok v' w'/\w'.ownsRow 0 e τ.size v' (n+m) (xs++news)/\w'.ownsRow 0 e τ.size v n xs/\w.grownBy w' v.ownBlock/\
   (v'.ownBlock=v.ownBlock\/∃g,v'.ownBlock=some g/\w.heap.size<=g/\g<w'.heap.size):=by
  rintro rfl rfl ad cap rfl
  refine⟨v,w,?_,by simpa using hown,hown,⟨rfl,rfl,rfl,Nat.le_refl _,λ_ _ _=>rfl⟩,.inl rfl⟩
  rcases hown.2 with⟨rfl,rfl⟩|⟨g,cp,cur,rfl,_,hg,hnc,_⟩
  ·cases ad<;>simp[Builtin.append_,run_underlying hu,Go.sizeOf,typeInfo,hi,Builtin.lenOf,Builtin.firstCells,loadCells,loadCellsFrom]
  ·cases ad<;>simp[Builtin.append_,run_underlying hu,Go.sizeOf,typeInfo,hi,Builtin.lenOf,Builtin.firstCells,loadCells,loadCellsFrom,hnc,storeCells]
 rcases hx with⟨hl0,hn0,ad,cap,Nx⟩|⟨b,o,cap,rfl,hl,hcells⟩
 ·exact hnone hl0 hn0 ad cap Nx
 ·have hl:news.length=m*i.size:=by rw[hsz];exact hl
  by_cases hm:m=0
  ·exact hnone hm (List.eq_nil_of_length_eq_zero (by rw[hl,hm,Nat.zero_mul])) _ _ (by rw[hm])
  have hown':w.ownsRow 0 e i.size v n xs:=by rw[hsz];exact hown
  have ua:(xs++news).length=(n+m)*τ.size:=by rw[List.length_append,hown.1,hl,Nat.add_mul,hsz]
  have hbytes:(n+m)*i.bytes<=140737488355328:=by
   have:=Nat.mul_le_mul hlen hby;omega
  have h63:n+m<=maxLen:=by unfold maxLen;omega
  have grown:∀old,w.drew.heap.size=w.heap.size->∃v',v'=Value.slice (some ⟨w.heap.size,0,none⟩) (n+m) (grownCap w (n+m) old e)/\
    (w.drew.alloc (.cells (xs.toArray++news.toArray++Builtin.zeroCells (j7 τ τ.zeroCells).cells (grownCap w (n+m) old e-(n+m))) e)).ownsRow 0 e τ.size v' (n+m) (xs++news):=by
   intro old _
   have hge:=grownCap_ge w (n+m) old e
   have wU:=grownCap_le_maxLen w (n+m) old e h63
   refine⟨_,rfl,ua,.inr ⟨w.heap.size,_,_,rfl,Nat.zero_le _,heap_alloc_new w.drew _,hge,wU,?_,?_⟩⟩
   ·simp only[Array.size_append,List.size_toArray,size_zeroCells,hzs,hown.1,hl,hsz,<-Nat.add_mul]
    congr 1
    omega
   ·simp only[Array.toList_append,List.append_assoc]
    rw[<-List.append_assoc,<-ua]
    exact List.take_left
  rcases hown.2 with⟨rfl,rfl⟩|⟨g,cp,cur,rfl,_,hg,hnc,wU,hcs,cC⟩
  ·have hxs:xs=[]:=List.eq_nil_of_length_eq_zero (by simpa using hown.1)
   subst hxs
   have hr:=run_append_nil (P:=P) w t ty e i _ hu hi hz ⟨b,o,none⟩ m cap news hl hcells (by omega) (by omega) (by simp only[Nat.zero_add]at hbytes;omega)
   obtain⟨v',rfl,fE⟩:=grown 0 rfl
   simp only[Nat.zero_add,List.nil_append,Array.empty_append]at fE ⊢
   refine⟨_,_,hr,fE,World.ownsRow_nil _ _ _ _,⟨rfl,rfl,rfl,by simp,λk hk _=>heap_alloc_old w.drew _ hk⟩,.inr ⟨w.heap.size,rfl,Nat.le_refl _,by simp⟩⟩
  ·by_cases hroom:n+m<=cp
   ·have hfit:n*i.size+news.length<=cur.size:=by rw[hl,hcs,hsz,<-Nat.add_mul];exact Nat.mul_le_mul_right _ hroom
    have hr:=run_append_room (P:=P) w t ty e i hu hi g n cp cur hg ⟨b,o,none⟩ m cap news hl hcells h1 hroom hfit
    rw[hsz]at hr hfit
    have wP:(cur.toList.take (n*τ.size)).length=n*τ.size:=by rw[cC,hown.1]
    refine⟨_,_,hr,⟨ua,.inr ⟨g,cp,_,rfl,Nat.zero_le _,setRow_heap w g cur _ e _ hg,hroom,wU,?_,?_⟩⟩,⟨hown.1,.inr ⟨g,cp,_,rfl,Nat.zero_le _,setRow_heap w g cur _ e _ hg,hnc,wU,?_,?_⟩⟩,
     ⟨rfl,rfl,rfl,by simp,λk _ hk=>setRow_other w g k _ (λe=>hk (by simp[Value.ownBlock,e]))⟩,.inl rfl⟩
    ·simp only[List.size_toArray,List.length_append,List.length_take,List.length_drop,Array.length_toList]
     omega
    ·rw[cC,<-ua]
     exact List.take_left
    ·simp only[List.size_toArray,List.length_append,List.length_take,List.length_drop,Array.length_toList]
     omega
    ·show List.take (n*τ.size) (cur.toList.take (n*τ.size)++news++_)=xs
     rw[List.append_assoc,List.take_append_of_le_length (by rw[wP];exact Nat.le_refl _),List.take_take,Nat.min_self,cC]
   ·have holds:∀j u,xs[j]? = some u->w.cell? ((⟨g,0,none⟩:Addr).add j)=some u:=hown.cells (g:=g) rfl
    have hr:=run_append_grow (P:=P) w t ty e i _ hu hi hz ⟨g,0,none⟩ n cp xs (by rw[hsz];exact hown.1) holds ⟨b,o,none⟩ m cap news hl hcells (by omega) (by omega) (growslice_fits (by omega) hbytes)
    obtain⟨v',rfl,fE⟩:=grown cp rfl
    refine⟨_,_,hr,fE,?_,⟨rfl,rfl,rfl,by simp,λk hk _=>heap_alloc_old w.drew _ hk⟩,.inr ⟨w.heap.size,rfl,Nat.le_refl _,by simp⟩⟩
    exact(hown.alloc (w:=w) _:(w.alloc _).ownsRow _ _ _ _ _ _)
theorem qiJ{t e:TypeId}{τ:Ty}(hu:P.underlying t=some (.slice e))(he:qT P e τ)(ty:TypeId){v:Value}{n:Nat}{xs:List Value}(hown:w.ownsRow 0 e τ.size v n xs)
  {l:List τ.den} {x:Value} (hx:FY P w H τ l x\/(l=[]/\∃ad cap,x = .slice ad 0 cap)) (hlen:n+l.length<=274877906944):
  ∃v' w' news,(Builtin.append_ #[t,t] ty #[v,x]).run P w = .ok v' w'/\qd (qm P τ w H) l news []/\w'.ownsRow 0 e τ.size v' (n+l.length) (xs++news)/\w'.ownsRow 0 e τ.size v n xs/\w.grownBy w' v.ownBlock/\
   (v'.ownBlock=v.ownBlock\/∃g,v'.ownBlock=some g/\w.heap.size<=g/\g<w'.heap.size):=by
 obtain⟨news,h1,h2⟩:=FY.raw hx
 obtain⟨v',w',k1,k2⟩:=qdx hu he ty hown h1 (FY.one h2) hlen
 exact⟨v',w',news,k1,h2,k2⟩
end
end Go.Vi
namespace Go.Vi
section
variable {P:Program} {C:cM} {aa:jB} {R:Type} {r:R} {s:St} {a:Act} {w:World} {H:FH} {Φ:Nat->qH} {dst:Option Nat} {ty:TypeId} {pos:String} {after:Array Edge} {guard:Option (Nat×Bool)} {k:St->Option R}
theorem ZE{t tid:TypeId}{e:Ty}(hu:P.underlying t=some (.slice tid))(he:qT P tid e)(ad:Option Addr)(n cap:Nat)(lo hi:Option Int)(i j:Nat)(zA:lo.getD 0=i)(yp:hi.getD n=j)(hij:i<=j)(hjc:j<=cap)(w:World)(k1 k2:IntKind):
  (Instr.sliceAt t (.slice ad n cap) (lo.map (.int k1)) (hi.map (.int k2)) none).run P w = .ok (.slice (if cap=i then ad else ad.map (·.add (i*e.size))) (j-i) (cap-i)) w:=by
 cases lo with
 |none=>
  simp only[Option.getD_none]at zA
  obtain rfl:i=0:=by omega
  cases hi with
  |none=>
   simp only[Option.getD_none]at yp
   obtain rfl:n=j:=by omega
   simp[Instr.sliceAt,run_underlying hu,Instr.slice,Instr.sliceBounds,he.sizeOf]
  |some h=>
   simp only[Option.getD_some]at yp
   subst yp
   simp[Instr.sliceAt,run_underlying hu,Instr.slice,Instr.sliceBounds,Instr.sliceBound,asIntOf,he.sizeOf,hjc]
 |some l=>
  simp only[Option.getD_some]at zA
  subst zA
  cases hi with
  |none=>
   simp only[Option.getD_none]at yp
   obtain rfl:n=j:=by omega
   simp[Instr.sliceAt,run_underlying hu,Instr.slice,Instr.sliceBounds,Instr.sliceBound,asIntOf,he.sizeOf,hij]
  |some h=>
   simp only[Option.getD_some]at yp
   subst yp
   simp[Instr.sliceAt,run_underlying hu,Instr.slice,Instr.sliceBounds,Instr.sliceBound,asIntOf,he.sizeOf,hjc,hij]
theorem qjN{c:Array Value}{o n p q:Nat}(hn:q<=n):((ct c o n).take q).drop p=ct c (o+p) (q-p):=by
 unfold ct
 rw[List.take_take,Nat.min_eq_left hn,List.drop_take,List.drop_drop]
theorem qm.slice{tid:TypeId}{e:Ty}{l:List e.den}{ad:Option Addr}{cap:Nat}(hr:qm P (.list false tid e) w H l [.slice ad l.length cap] []){i j:Nat}(hij:i<=j)(hj:j<=l.length):
  qm P (.list false tid e) w H ((l.take j).drop i) [.slice (if cap=i then ad else ad.map (·.add (i*e.size))) (j-i) (cap-i)] []:=by
 obtain⟨_,ad',cap',he,hc,hl⟩:=hr
 simp only[List.cons.injEq,Value.slice.injEq,and_true,true_and]at he
 obtain⟨rfl,rfl⟩:=he
 have hlen:((l.take j).drop i).length=j-i:=by simp[Nat.min_eq_left hj]
 refine⟨rfl,_,_,by rw[hlen],by rw[hlen];omega,?_⟩
 by_cases hz:j=i
 ·left
  exact List.length_eq_zero_iff.1 (by rw[hlen];omega)
 ·right
  rcases hl with rfl|⟨b,o,blk,rfl,hH,hch⟩
  ·simp at hj;omega
  ·have Wn:¬cap=i:=by omega
   refine⟨b,o+i*e.size,blk,?_,hH,?_⟩
   ·rw[if_neg Wn];simp[Addr.fB]
   ·obtain⟨f1,h1,g1,e1⟩:=qd.take (n:=e.size) (λ_ _ _ hh=>qm.length e hh) hch j
    obtain⟨rfl,rfl⟩:=List.append_eq_nil_iff.1 e1.symm
    obtain⟨f2,h2,g2,e2⟩:=qd.drop (n:=e.size) (λ_ _ _ hh=>qm.length e hh) h1 i
    obtain⟨rfl,rfl⟩:=List.append_eq_nil_iff.1 e2.symm
    rw[qjN (Nat.mul_le_mul_right _ hj)]at h2
    rw[hlen,Nat.sub_mul]
    exact h2
theorem qkF{blk:Array Value}{off:Nat}{v:Value}(h:(ct blk off 1).headD undef=v)(hv:v≠undef):blk[off]? = some v:=by
 unfold ct at h
 cases hq:blk.toList.drop off with
 |nil=>rw[hq]at h;exact absurd h.symm hv
 |cons u r=>
  have h2:(blk.toList.drop off)[0]? = some u:=by rw[hq];rfl
  rw[List.getElem?_drop,Nat.add_zero,Array.getElem?_toList]at h2
  rw[hq]at h
  rw[h2,<-h];rfl
theorem vm{R:Type}{a b:Int}{k:Option R}{r:R}(h:bO a b k=some r):a<=b/\k=some r:=by
 unfold bO at h
 split at h
 ·exact⟨‹_›,h⟩
 ·cases h
theorem qkl(hs:qh P C s a w H Φ){x:Option Operand}{n:Option Int}(h:Mr s x=some n):∃k:IntKind,x.map a.eval=n.map (Value.int k):=by
 unfold Mr at h
 split at h
 ·cases h;exact⟨.i64,rfl⟩
 ·rename_i x
  split at h
  ·rename_i m hm
   cases h
   obtain⟨av,h1,h2⟩:=Option.bind_eq_some_iff.1 hm
   obtain⟨k,hk⟩:=Uk h2 (ql hs qy h1)
   exact⟨k,by simp[hk]⟩
  ·cases h
theorem qoo(ae:qx P aa)(hC:qD C aa){T:TypeId}{x:Operand}{lo hi mx:Option Operand}(hs:qh P C s a w H Φ)(hd:qK aa.nt dst=true)(h:YX aa s dst T x lo hi mx k=some r):
  ∃s',k s'=some r/\fG P C ⟨dst,.slice T x lo hi mx,ty,pos,after,guard⟩ a w s':=by
 unfold YX at h
 split at h
 case h_2=>cases h
 rename_i av lo' hi' he hlo hhi
 have hr:=ql hs qy he
 obtain⟨k1,wT⟩:=qkl hs hlo
 obtain⟨k2,hk2⟩:=qkl hs hhi
 split at h
 ·rename_i m e l
  unfold qkv at h
  split at h
  case h_2=>cases h
  rename_i tid _ fc
  cases hT:decide (lk aa.ty T=some (.arr m e))with
  |false=>rw[hT]at h;cases h
  |true=>
  rw[hT,cond_true]at h
  obtain⟨a_,hfz⟩:=ae.ty T _ (of_decide_eq_true hT)
  obtain⟨u,hu,he⟩:=a_.arr
  obtain⟨hf,b,o,blk,hv,hb,hl,hch⟩:=hr
  refine⟨_,h,qr hs hC hd (v:=.slice (some ⟨b,o,none⟩) m m) ⟨hf,[.slice (some ⟨b,o,none⟩) m m],rfl,?_⟩ (λw' _=>?_)⟩
  ·refine⟨rfl,some ⟨b,o,none⟩,m,?_,Nat.le_of_eq hl,.inr ⟨b,o,blk,rfl,hb,?_⟩⟩
   ·rw[show List.length l=m from hl]
   ·rw[show List.length l=m from hl];exact hch
  ·simp[execOp,hv,Instr.sliceAt,run_underlying hu,Instr.sliceBounds,Instr.sureAddr,he.sizeOf,wT,hk2]
   cases m<;>simp[Addr.add]
 rename_i Cq
 clear Cq
 unfold qmR at h
 split at h
 ·rename_i own tid e l
  cases hT: !own&&decide (lk aa.ty T=some (.list false tid e))with
  |false=>rw[hT]at h;cases h
  |true=>
   rw[hT,cond_true]at h
   rw[Bool.and_eq_true,Bool.not_eq_true']at hT
   obtain⟨rfl,hT⟩:=hT
   obtain⟨a_,hfz⟩:=ae.ty T _ (of_decide_eq_true hT)
   obtain⟨hf,cs,hv,an⟩:=hr
   have gA:=an
   obtain⟨_,ad,cap,rfl,hcap,_⟩:=an
   have gl:a.eval x = .slice ad (List.length l) cap:=by rw[hv];rfl
   have fin:∀(i j:Nat) (l':List e.den),lo'.getD 0=i->hi'.getD (List.length l)=j->i<=j->j<=List.length l->l'=(List.take j l).drop i->k (s.ah dst (.val (.list false tid e) l'))=some r->
     ∃s',k s'=some r/\fG P C ⟨dst,.slice T x lo hi none,ty,pos,after,guard⟩ a w s':=by
    rintro i j l' zA yp hij hj rfl hk
    refine⟨_,hk,qr hs hC hd (v:=.slice (if cap=i then ad else ad.map (·.add (i*e.size))) (j-i) (cap-i)) ⟨hf,_,rfl,qm.slice gA hij hj⟩ (λw' _=>?_)⟩
    have:=ZE a_.list.1 a_.list.2 ad (List.length l) cap lo' hi' i j zA yp hij (Nat.le_trans hj hcap) w' k1 k2
    simp[execOp,gl,wT,hk2,this]
   match lo',hi',h with
   |none,none,h=>exact fin 0 (List.length l) l rfl rfl (Nat.zero_le _) (Nat.le_refl _) (by simp) h
   |some i,none,h=>
    obtain⟨h0,h⟩:=vm h
    obtain⟨h1,h⟩:=vm h
    exact fin i.toNat (List.length l) _ (by simp;omega) rfl (by omega) (Nat.le_refl _) (by simp) h
   |none,some j,h=>
    obtain⟨h0,h⟩:=vm h
    obtain⟨h1,h⟩:=vm h
    exact fin 0 j.toNat _ rfl (by simp;omega) (Nat.zero_le _) (by omega) (by simp) h
   |some i,some j,h=>
    obtain⟨h0,h⟩:=vm h
    obtain⟨h1,h⟩:=vm h
    obtain⟨h2,h⟩:=vm h
    exact fin i.toNat j.toNat _ (by simp;omega) (by simp;omega) (by omega) (by omega) rfl h
 ·rename_i id p
  split at h
  case h_2=>cases h
  rename_i o ho
  rw[jJ]at h
  obtain⟨y,hy,h⟩:=Option.bind_eq_some_iff.1 h
  obtain⟨σ,y⟩:=y
  simp only at h
  split at h
  case h_2=>cases h
  rename_i own tid e l
  cases hT:own&&e.ay&&decide (lk aa.ty T=some (.list false tid e))with
  |false=>rw[hT]at h;cases h
  |true=>
   rw[hT,cond_true]at h
   rw[Bool.and_eq_true,Bool.and_eq_true]at hT
   obtain⟨⟨rfl,oO⟩,hT⟩:=hT
   obtain⟨a_,_⟩:=ae.ty T _ (of_decide_eq_true hT)
   have hok:=(hs.os id o ho).1
   have Gx:=Gl _ hok.1 hy
   match lo',hi',h with
   |none,some j,h=>
    obtain⟨h0,h⟩:=vm h
    obtain⟨h1,h⟩:=vm h
    obtain⟨cs,fp,hv,an,hsub,_⟩:=wA hr ho hok hy
    replace an:qm P (.list true tid e) w H l cs fp:=an
    replace hv:a.eval x=j7 (.list true tid e) cs:=hv
    obtain⟨ax,xs,aC,rfl,rfl,hown,hch⟩:=an
    have nF:=qd.iE (λ_ _ _ hh=>qm.dg e oO hh) hch
    subst nF
    have gl:a.eval x=ax:=by rw[hv];rfl
    have CD:∃ad cap,ax = .slice ad (List.length l) cap/\List.length l<=cap/\w.ownsRow 0 tid e.size (.slice ad j.toNat cap) j.toNat (xs.take (j.toNat*e.size))/\(Value.slice ad j.toNat cap).ownBlock=ax.ownBlock:=by
     have hlx:(xs.take (j.toNat*e.size)).length=j.toNat*e.size:=by
      rw[List.length_take,hown.1]
      exact Nat.min_eq_left (Nat.mul_le_mul_right _ (by omega))
     rcases hown.2 with⟨rfl,hz⟩|⟨g,cap,cur,rfl,hb,hg,hnc,wU,hcs,cC⟩
     ·have yp:j.toNat=0:=by omega
      refine⟨none,0,by rw[hz],by omega,⟨hlx,.inl ⟨by rw[yp],yp⟩⟩,rfl⟩
     ·refine⟨_,cap,rfl,hnc,⟨hlx,.inr ⟨g,cap,cur,rfl,hb,hg,by omega,wU,hcs,?_⟩⟩,rfl⟩
      rw[<-cC,List.take_take,Nat.min_eq_left (Nat.mul_le_mul_right _ (by omega))]
    obtain⟨ad,cap,rfl,hlc,CD,hblk⟩:=CD
    obtain⟨f1,N_,g1,e1⟩:=qd.take (n:=e.size) (λ_ _ _ hh=>qm.length e hh) hch j.toNat
    obtain⟨rfl,rfl⟩:=List.append_eq_nil_iff.1 e1.symm
    have IF:(List.take j.toNat l).length=j.toNat:=by rw[List.length_take];omega
    have hru:qi P C w H Φ s.obj (.d_ id p tid e (List.take j.toNat l)) (.slice ad j.toNat cap):=by
     refine⟨o,ho,by simpa[Ty.eM,Ty.aD]using Gx,jH _ hy,(Value.slice ad j.toNat cap).ownBlock.toList,by cases(Value.slice ad j.toNat cap).ownBlock<;>simp,⟨_,_,[],rfl,by simp,by rw[IF];exact CD,N_⟩,?_⟩
     intro b hb
     rw[hblk]at hb
     refine⟨((hs.os id o ho).2 b (hsub b (by simp at hb ⊢;exact hb))).2.2,.inr ?_⟩
     obtain⟨o',y',q1,q2,q3⟩:=hr
     rw[ho]at q1
     cases q1
     unfold ia
     cases gW:o.row&&p.isEmpty with
     |true=>exact hsub b (by simp at hb ⊢;exact hb)
     |false=>
      rw[gW]at q3
      rw[hy]at q2
      cases q2
      obtain⟨b2,off,blk,t,q4,q5,q6⟩:=q3
      have q7:j7 (.list true tid e) (ct blk off 1) = .slice ad (List.length l) cap:=by rw[<-gl];exact q6.symm
      have hc9:=qkF q7 (by simp[undef])
      have kN:ct blk off (Ty.list true tid e).size=[.slice ad (List.length l) cap]:=by
       show ct blk off 1=_
       unfold ct
       rw[List.take_one,List.head?_drop,Array.getElem?_toList,hc9]
       rfl
      exact⟨⟨.list true tid e,l⟩,b2,off,blk,t,(Value.slice ad (List.length l) cap).ownBlock.toList,hy,q4,q5,by rw[kN];exact⟨_,_,[],rfl,by simp,hown,hch⟩,by simpa using hb⟩
    refine⟨_,h,qr hs hC hd hru (λw' _=>?_)⟩
    have:=ZE a_.list.1 a_.list.2 ad (List.length l) cap none (some j) 0 j.toNat rfl (by simp;omega) (Nat.zero_le _) (by omega) w' k1 k2
    simp only[Nat.zero_mul,Nat.sub_zero,Option.map_none,Option.map_some]at this
    have abA:(if cap=0 then ad else Option.map (λx=>x.add 0) ad)=ad:=by
     split
     ·rfl
     ·cases ad<;>rfl
    rw[abA]at this
    simp[execOp,gl,wT,hk2,this]
   |none,none,h=>cases h
   |some i,none,h=>
    replace h:bO 0 i (bO i (List.length l) (k (s.ah dst (.cut id p e.size i))))=some r:=h
    obtain⟨h0,hq1⟩:=vm h
    obtain⟨h1,r_⟩:=vm hq1
    obtain⟨cs,fp,hv,an,_,_⟩:=wA hr ho hok hy
    replace an:qm P (.list true tid e) w H l cs fp:=an
    replace hv:a.eval x=j7 (.list true tid e) cs:=hv
    obtain⟨ax,xs,aC,rfl,rfl,hown,_⟩:=an
    have gl:a.eval x=ax:=by rw[hv];rfl
    have uP:∃ad cap,ax = .slice ad (List.length l) cap/\List.length l<=cap:=by
     rcases hown.2 with⟨rfl,hz⟩|⟨g,cap,cur,rfl,_,_,hnc,_⟩
     ·exact⟨none,0,by rw[hz],by omega⟩
     ·exact⟨_,cap,rfl,hnc⟩
    obtain⟨ad,cap,rfl,hlc⟩:=uP
    have hru:qi P C w H Φ s.obj (.cut id p e.size i) (.slice (if cap=i.toNat then ad else ad.map (·.add (i.toNat*e.size))) (List.length l-i.toNat) (cap-i.toNat)):=
     ⟨_,hr,ad,List.length l,cap,gl,h0,by omega,rfl⟩
    refine⟨_,r_,qr hs hC hd hru (λw' _=>?_)⟩
    have:=ZE a_.list.1 a_.list.2 ad (List.length l) cap (some i) none i.toNat (List.length l) (by simp;omega) rfl (by omega) (by omega) w' k1 k2
    simp only[Option.map_none,Option.map_some]at this
    simp[execOp,gl,wT,hk2,this]
   |some _,some _,h=>cases h
 ·cases h
theorem Bo(ae:qx P aa)(hC:qD C aa){T:TypeId}{x:Operand}{lo hi mx:Option Operand}(hs:qh P C s a w H Φ)(hd:qK aa.nt dst=true)(h:qM aa ⟨dst,.slice T x lo hi mx,ty,pos,after,guard⟩ s k=some r):
  ∃s',k s'=some r/\fG P C ⟨dst,.slice T x lo hi mx,ty,pos,after,guard⟩ a w s':=by
 simp only[qM]at h
 obtain⟨H',hs'⟩:=hs.fe (aa:=aa) dst x
 exact qoo ae hC hs' hd h
end
end Go.Vi
namespace Go.Vi
section
variable {P:Program} {C:cM} {aa:jB} {R:Type} {r:R} {s:St} {a:Act} {w:World} {H:FH} {Φ:Nat->qH} {dst:Option Nat} {ty:TypeId} {pos:String} {after:Array Edge} {guard:Option (Nat×Bool)} {k:St->Option R}
theorem Ko(w:World)(o:Go.Obj):jO jA w (w.alloc o):=⟨rfl,rfl,rfl,by simp,λk hk _=>heap_alloc_old w o hk⟩
theorem pW{o:Oper}{a:Act}{w w':World}{v:Value}{s':St}(hrun:(execOp a.eval o).run P w = .ok (.value v) w')(h:dS P C s' (a.put o.dst v) w'):ew P C o a w s':=by
 unfold ew;rw[hrun];exact h
theorem Uw{v:Value}{T:TypeId}:(newVar T v).run P w = .ok ⟨w.heap.size,0,none⟩ (w.alloc (.cells v.cells T)):=by
 simp[newVar,newRow]
theorem qh.newVar(hs:qh P C s a w H Φ)(ae:qx P aa)(hC:qD C aa){d:Nat}(hd:d<aa.nt){T:TypeId}{τ:Ty}{x:τ.den}{cs:List Value}{arr:Array Value}(hn:τ.eM=true)(CM:arr.toList=cs)(an:qm P τ w H x cs []):
  ∃aU,qh P C ((s.newObj d false τ x).set d (.ptr d [])) (a.put (some d) (.pointer (some ⟨w.heap.size,0,none⟩))) (w.alloc (.cells arr T)) H aU:=by
 have hm:=Ko w (.cells arr T)
 have hd2:d<4000000:=by have:=ae.small;omega
 have hh:(w.alloc (.cells arr T)).heap[w.heap.size]? = some (.cells arr T (0,0)):=heap_alloc_new w _
 have hnone:H w.heap.size=none:=by
  cases hq:H w.heap.size with
  |none=>rfl
  |some c=>exact absurd (hs.hok.lt hq) (by omega)
 have h1:=hs.newObj hm (hC.gQ d (Nat.lt_trans hd2 (by decide))) (uE hd2) (row:=false) (τ:=τ) (x:=x) (φ:=⟨w.heap.size,.nilFunc,[w.heap.size]⟩)
  ⟨hn,by simp,arr,T,[],hh,by rw[CM];exact qm.mono τ (FH.le_refl _) (by simp) an,rfl⟩ (by
   intro b hb
   simp only[List.mem_singleton]at hb
   subst hb
   refine⟨hnone,.inr hs.mod.size,by simp,λj o' _ hj hb=>?_⟩
   have:=((hs.os j o' hj).2 _ hb).2.2
   omega)
 refine⟨_,h1.set (by rw[hC.nt];exact hd) ⟨⟨false,τ,x⟩,⟨τ,x⟩,w.heap.size,0,?_,rfl,qO _ _,?_,rfl⟩⟩
 ·rw[St.newObj,St.ak,if_pos rfl]
 ·rw[qt]
  exact kV _ _ _ _
theorem By(ae:qx P aa)(hC:qD C aa){T:TypeId}(hs:qh P C s a w H Φ)(hd:qK aa.nt dst=true)(h:qM aa ⟨dst,.alloc T,ty,pos,after,guard⟩ s k=some r):
  ∃s',k s'=some r/\ew P C ⟨dst,.alloc T,ty,pos,after,guard⟩ a w s':=by
 simp only[qM]at h
 split at h
 case h_2=>cases h
 rename_i d τ hst
 have a_:qT P T τ:=by
  unfold Az at hst
  simp only at hst
  split at hst
  ·rename_i σ _
   cases hq:decide (some σ.fz=lk aa.ty T)with
   |false=>rw[hq]at hst;cases hst
   |true=>
    rw[hq,cond_true]at hst
    cases hst
    exact qT.gw (ae.ty T _ (of_decide_eq_true hq).symm).1
  ·exact(ae.ty T _ hst).1
 cases hn:τ.de with
 |false=>rw[hn]at h;cases h
 |true=>
  rw[hn,cond_true]at h
  have hcells:(j7 τ τ.zeroCells).cells.toList=τ.zeroCells:=Bc (by rintro x y rfl;exact a_.bT) (Ty.aA τ) (Ty.dm τ)
  obtain⟨aU,h1⟩:=hs.newVar ae hC (Eq.mp Nat.blt_eq hd) (T:=T) (Ty.eG τ hn) hcells (qm.de τ hn)
  refine⟨_,h,pW (w':=w.alloc (.cells (j7 τ τ.zeroCells).cells T)) (v:=.pointer (some ⟨w.heap.size,0,none⟩)) ?_ ⟨H,aU,h1⟩⟩
  simp[execOp,Instr.alloc,a_.zeroValue,Uw]
theorem qnQ{av:AV}{v:Value}(hr:qi P C w H Φ s.obj av v){τ:Ty}(hfz:τ.ay=true){f:τ.den->Option R}(vy:(∃σ x,av = .val σ x)\/∃σ x,av = .ref σ x)(h:pU s av τ f=some r):
  ∃x,f x=some r/\∃cs,v=j7 τ cs/\qm P τ w H x cs []:=by
 rcases vy with⟨σ,x,rfl⟩|⟨σ,x,rfl⟩
 ·simp only[pU,qj]at h
  replace h:=Option.bind_eq_some_iff.1 h
  obtain⟨y,hy,h⟩:=h
  obtain⟨e,hy⟩:=qg hy
  subst e
  subst hy
  obtain⟨_,cs,hv,an⟩:=hr
  exact⟨_,h,cs,hv,an⟩
 ·simp only[pU,qj]at h
  replace h:=Option.bind_eq_some_iff.1 h
  obtain⟨y,hy,h⟩:=h
  obtain⟨e,hy⟩:=qg hy
  subst e
  subst hy
  obtain⟨_,b,o,blk,hv,hH,an⟩:=hr
  exact⟨_,h,[v],rfl,rfl,b,o,blk,by rw[hv],hH,an⟩
theorem qh.oG(hs:qh P C s a w H Φ)(hC:qD C aa){d:Nat}(hd:d<aa.nt){T:TypeId}{τ:Ty}{x:τ.den}{cs:List Value}{arr:Array Value}(hfz:τ.ay=true)(CM:arr.toList=cs)(an:qm P τ w H x cs []):
  ∃H',qh P C (s.set d (.ref τ x)) (a.put (some d) (.pointer (some ⟨w.heap.size,0,none⟩))) (w.alloc (.cells arr T)) H' Φ:=by
 have hm:=Ko w (.cells arr T)
 have hnone:H w.heap.size=none:=by
  cases hq:H w.heap.size with
  |none=>rfl
  |some c=>exact absurd (hs.hok.lt hq) (by omega)
 obtain⟨H',hH'⟩:∃H':FH,H'=λb=>if b=w.heap.size then some (FB.cells arr)else H b:=⟨_,rfl⟩
 have hold:∀b,b≠w.heap.size->H' b=H b:=λb hb=>by rw[hH'];simp only[if_neg hb]
 have hnew:H' w.heap.size=some (.cells arr):=by rw[hH'];exact if_pos rfl
 have hle:H.le H':=λb c hb=>by
  rw[hold b (by rintro rfl;rw[hnone]at hb;cases hb)]
  exact hb
 have hw:∀b,b<w.heap.size->(w.alloc (.cells arr T)).heap[b]? = w.heap[b]?:=λb hb=>heap_alloc_old w _ hb
 refine⟨H',qh.set (C:=C) ⟨hs.defers,hs.size,FH.le_trans hs.le hle,?_,?_,hs.mod.trans (hm.mono (λ_ hb=>hb.elim)),?_,?_,hs.aN,hs.pins⟩ (by rw[hC.nt];exact hd) ⟨hfz,w.heap.size,0,arr,rfl,hnew,?_⟩⟩
 ·intro b c hb
  by_cases e:b=w.heap.size
  ·subst e
   rw[hnew]at hb
   cases hb
   exact⟨T,(0,0),heap_alloc_new w _⟩
  ·rw[hold b e]at hb
   exact(hs.hok b c hb).block (hw b (hs.hok.lt hb))
 ·intro b c hb
  by_cases e:b=w.heap.size
  ·subst e;exact .inr (.inr hs.mod.size)
  ·rw[hold b e]at hb;exact hs.hnew b c hb
 ·intro t av ht
  exact qi.grow hle (λid o ho=>⟨(hs.os id o ho).1,λb hb=>((hs.os id o ho).2 b hb).2.2⟩) hw hm.size (λb hb=>by rw[hold b (by have:=hb.lt;omega)];exact hb.fz) (hs.ts t av ht)
 ·intro id o ho
  obtain⟨h1,h2⟩:=hs.os id o ho
  exact⟨h1.frame hle (λb hb=>hw b (h2 b hb).2.2),λb hb=>⟨by rw[hold b (by have:=(h2 b hb).2.2;omega)];exact(h2 b hb).1,(h2 b hb).2.1,Nat.lt_of_lt_of_le (h2 b hb).2.2 hm.size⟩⟩
 ·have:ct arr 0 τ.size=cs:=by
   have hl:=qm.length τ an
   rw[Rz,CM,<-hl,List.take_length]
  rw[this]
  exact qm.mono τ hle (by simp) an
theorem Nh(ae:qx P aa)(hC:qD C aa){T:TypeId}{x:Operand}(hs:qh P C s a w H Φ)(hd:qK aa.nt dst=true)(h:qM aa ⟨dst,.box T x,ty,pos,after,guard⟩ s k=some r):
  ∃s',k s'=some r/\ew P C ⟨dst,.box T x,ty,pos,after,guard⟩ a w s':=by
 simp only[qM]at h
 split at h
 case h_2=>cases h
 rename_i d av τ he hT
 have hr:=ql hs (ae.fz T) he
 obtain⟨a_,hfz⟩:=ae.ty T τ hT
 have mG:d<aa.nt:=Eq.mp Nat.blt_eq hd
 cases hn:((!τ.aD && !av.Nu)||(lk aa.fl d).isSome)with
 |true=>
  rw[hn,cond_true]at h
  split at h
  case h_3=>cases h
  case h_2=>
   rename_i σ y
   rw[qj]at h
   replace h:=Option.bind_eq_some_iff.1 h
   obtain⟨x0,hx,h⟩:=h
   obtain⟨e1,hx⟩:=qg hx
   subst e1
   subst hx
   obtain⟨_,b2,o2,blk,hv,hH,Ci⟩:=hr
   have an:qm P (.ptr σ) w H (some y) [.pointer (some ⟨b2,o2,none⟩)] []:=⟨rfl,b2,o2,blk,rfl,hH,Ci⟩
   obtain⟨H',h1⟩:=hs.oG hC mG (T:=T) (arr:=(Value.pointer (some ⟨b2,o2,none⟩)).cells) hfz rfl an
   refine⟨_,h,pW (w':=w.alloc (.cells (Value.pointer (some ⟨b2,o2,none⟩)).cells T)) (v:=.pointer (some ⟨w.heap.size,0,none⟩)) ?_ ⟨H',Φ,h1⟩⟩
   simp[execOp,Instr.box,Uw,hv]
  rename_i σ y
  rw[qj]at h
  replace h:=Option.bind_eq_some_iff.1 h
  obtain⟨x0,hx,h⟩:=h
  obtain⟨e1,hx⟩:=qg hx
  subst e1
  subst hx
  obtain⟨_,cs,hv,an⟩:=hr
  have hcells:(j7 σ cs).cells.toList=cs:=Bc (by rintro x y rfl;exact a_.bT) (qm.length σ an) (qm.one σ an)
  obtain⟨H',h1⟩:=hs.oG hC mG (T:=T) hfz hcells an
  refine⟨_,h,pW (w':=w.alloc (.cells (j7 σ cs).cells T)) (v:=.pointer (some ⟨w.heap.size,0,none⟩)) ?_ ⟨H',Φ,h1⟩⟩
  simp[execOp,Instr.box,Uw,hv]
 |false=>
 rw[hn,cond_false]at h
 replace hn:av.Nu=false->τ.aD=true:=by
  intro hv
  cases hq:τ.aD with
  |true=>rfl
  |false=>rw[hq,hv]at hn;cases hn
 split at h
 ·rename_i id
  clear hn
  split at h
  case h_2=>cases h
  rename_i ob ho
  cases hq:ob.row&&decide (ob.τ.fz=τ)with
  |false=>rw[hq]at h;cases h
  |true=>
   rw[hq,cond_true]at h
   rw[Bool.and_eq_true]at hq
   obtain⟨hrow,lg⟩:=hq
   have lg:=of_decide_eq_true lg
   subst lg
   obtain⟨h1,h2⟩:=hs.os id ob ho
   obtain⟨o',y',q1,q2,q3⟩:=hr
   rw[ho]at q1
   cases q1
   rw[hrow]at q3
   simp only[List.isEmpty_nil,Bool.and_self]at q3
   obtain⟨sc,aq,h3⟩:=h1
   rw[hrow]at h3
   obtain⟨_,cs,hcs,h3⟩:=h3
   have hcells:(j7 ob.τ cs).cells.toList=cs:=Bc (by rintro x y e;rw[e]at a_;exact a_.bT) (qm.length _ h3) (qm.one _ h3)
   rw[<-hcs]at hcells
   have KK:=hs.remove id
   have hm:=Ko w (.cells (Φ id).ax.cells T)
   have hh:(w.alloc (.cells (Φ id).ax.cells T)).heap[w.heap.size]? = some (.cells (Φ id).ax.cells T (0,0)):=heap_alloc_new w _
   have hnone:H w.heap.size=none:=by
    cases hq:H w.heap.size with
    |none=>rfl
    |some c=>exact absurd (hs.hok.lt hq) (by omega)
   have hd2:d<4000000:=Nat.lt_of_lt_of_le mG (Nat.le_trans ae.small (by decide))
   have bF:∀j o,((s.kill id).setObj id none).obj j=some o->s.obj j=some o/\j≠id:=by
    intro j o hj
    rw[St.ak]at hj
    split at hj
    ·cases hj
    ·rename_i hne;exact⟨hj,λe=>hne e.symm⟩
   have KQ:=KK.newObj hm (hC.gQ d (Nat.lt_trans hd2 (by decide))) (uE hd2) (row:=false) (τ:=ob.τ) (x:=ob.x) (φ:=⟨w.heap.size,.nilFunc,w.heap.size::(Φ id).fp⟩)
    ⟨sc,by
     rw[List.nodup_cons]
     exact⟨λhb=>by have:=(h2 _ hb).2.2;omega,aq⟩,(Φ id).ax.cells,T,(Φ id).fp,hh,by rw[hcells];exact qm.mono _ (FH.le_refl _) (λb hb=>heap_alloc_old w _ (h2 b hb).2.2) h3,rfl⟩ (by
     intro b hb
     rcases List.mem_cons.1 hb with rfl|hb
     ·refine⟨hnone,.inr hs.mod.size,by simp,λj o' _ hj hb=>?_⟩
      have:=((hs.os j o' (bF j o' hj).1).2 _ hb).2.2
      omega
     ·obtain⟨p1,p2,p3⟩:=h2 b hb
      exact⟨p1,p2,by simp;omega,λj o' _ hj=>hs.aN id j ob o' (λe=>(bF j o' hj).2 e.symm) ho (bF j o' hj).1 b hb⟩)
   have ho5:(((s.kill id).setObj id none).newObj d false ob.τ ob.x).obj d=some ⟨false,ob.τ,ob.x⟩:=by rw[St.newObj,St.ak,if_pos rfl]
   have sc:=KQ.set (d:=d) (av:=.ptr d []) (v:=.pointer (some ⟨w.heap.size,0,none⟩)) (by rw[hC.nt];exact mG) ⟨⟨false,ob.τ,ob.x⟩,⟨ob.τ,ob.x⟩,w.heap.size,0,ho5,rfl,qO _ _,by
    rw[qt]
    exact kV _ _ _ _,rfl⟩
   refine⟨_,h,pW (w':=w.alloc (.cells (Φ id).ax.cells T)) (v:=.pointer (some ⟨w.heap.size,0,none⟩)) ?_ ⟨H,rX Φ d ⟨w.heap.size,.nilFunc,w.heap.size::(Φ id).fp⟩,?_⟩⟩
   ·simp[execOp,Instr.box,Uw,q3]
   unfold St.CS
   split
   case h_2=>exact sc
   rename_i n j hg
   cases hj:Nat.beq j id with
   |false=>exact sc
   |true=>
    obtain rfl:=Nat.eq_of_beq_eq_true hj
    refine sc.AA ?_
    obtain⟨u,hu,o2,y2,e1,_,e3⟩:=hs.ts Ol _ hg
    rw[ho]at e1
    cases e1
    rw[hrow]at e3
    simp only[List.isEmpty_nil,Bool.and_self]at e3
    refine⟨u,hu,⟨false,ob.τ,ob.x⟩,⟨ob.τ,ob.x⟩,ho5,qO _ _,?_⟩
    simp only[Bool.false_and]
    refine⟨w.heap.size,0,(Φ j).ax.cells,T,?_,hh,?_⟩
    ·rw[qt]
     exact kV _ _ _ _
    ·rw[e3]
     have:ct (Φ j).ax.cells 0 ob.τ.size=cs:=by
      rw[Rz,hcells,List.take_of_length_le (by rw[qm.length _ h3];exact Nat.le_refl _)]
     rw[this]
     exact hcs
 ·rename_i hnv
  have key:((∃σ x,av = .val σ x)\/∃σ x,av = .ref σ x)/\∃x0:τ.den,k ((s.newObj d false τ x0).set d (.ptr d []))=some r/\∃cs,a.eval x=j7 τ cs/\qm P τ w H x0 cs []:=by
   cases av with
   |val σ y=>
    obtain⟨x0,h,hx⟩:=qnQ hr hfz (.inl ⟨_,_,rfl⟩) h
    exact⟨.inl ⟨_,_,rfl⟩,x0,h,hx⟩
   |ref σ y=>
    obtain⟨x0,h,hx⟩:=qnQ hr hfz (.inr ⟨_,_,rfl⟩) h
    exact⟨.inr ⟨_,_,rfl⟩,x0,h,hx⟩
   |view id p=>
    exfalso
    simp only[pU]at h
    split at h
    ·rw[jJ]at h
     obtain⟨y,_,h⟩:=Option.bind_eq_some_iff.1 h
     rw[qj]at h
     obtain⟨y,_,h⟩:=Option.bind_eq_some_iff.1 h
     cases h
    ·cases h
   |d_ id p tid e l=>
    cases h
   |ptr id p=>
    exfalso
    simp only[pU]at h
    split at h
    ·rename_i o _
     cases hr:o.row with
     |true=>rw[hr]at h;cases h
     |false=>
      rw[hr,cond_false]at h
      split at h
      ·rw[qj]at h
       obtain⟨y,_,h⟩:=Option.bind_eq_some_iff.1 h
       cases h
      ·cases h
    ·cases h
   |_=>cases h
  obtain⟨hkk,x0,h,cs,hv,an⟩:=key
  replace hn:=hn (by rcases hkk with⟨_,_,rfl⟩|⟨_,_,rfl⟩<;>rfl)
  have hcells:(j7 τ cs).cells.toList=cs:=Bc (by rintro x y rfl;exact a_.bT) (qm.length τ an) (qm.one τ an)
  obtain⟨aU,h1⟩:=hs.newVar ae hC mG (T:=T) (Ty.bI τ hn) hcells an
  refine⟨_,h,pW (w':=w.alloc (.cells (j7 τ cs).cells T)) (v:=.pointer (some ⟨w.heap.size,0,none⟩)) ?_ ⟨H,aU,h1⟩⟩
  simp[execOp,Instr.box,Uw,hv]
end
end Go.Vi
namespace Go.Vi
section
variable {P:Program} {C:cM} {aa:jB} {R:Type} {r:R} {s:St} {a:Act} {w:World} {H:FH} {Φ:Nat->qH} {dst:Option Nat} {ty:TypeId} {pos:String} {after:Array Edge} {guard:Option (Nat×Bool)} {k:St->Option R}
theorem qhg(z:Array Value)(hz:0<z.size):∀c,(madeCells z (c*z.size)).toList=(List.replicate c z.toList).flatten
 |0=>by simp[madeCells]
 |c+1=>by
  have ih:=qhg z hz c
  simp only[madeCells,Array.toList_map,Array.toList_range]at ih ⊢
  rw[Nat.add_mul,Nat.one_mul,List.range_add,List.map_append,ih,List.replicate_succ',List.flatten_append]
  congr 1
  rw[List.map_map]
  simp only[List.flatten_cons,List.flatten_nil,List.append_nil]
  apply List.ext_getElem?
  intro i
  by_cases hi:i<z.size
  ·have hm:(c*z.size+i)%z.size=i:=by rw[Nat.mul_comm,Nat.mul_add_mod];exact Nat.mod_eq_of_lt hi
   simp[hm,hi]
  ·simp[Nat.not_lt.1 hi]
theorem qx.low(ae:qx P aa){d:Nat}(hd:d<aa.nt):d<4000000:=Nat.lt_of_lt_of_le hd (Nat.le_trans ae.small (by decide))
theorem qov(ae:qx P aa){d:Nat}(hd:d<aa.nt){v:Value}(hv:OZ v):TK aa d<10000000/\Jn (TK aa d) v:=by
 have h1:d<3000000:=Nat.lt_of_lt_of_le hd (Nat.le_trans ae.small (by decide))
 unfold TK
 cases j4 (1000000+d) aa.mK with
 |true=>exact⟨by rw[cond_true];omega,qjA (nn:=true) h1 hv⟩
 |false=>exact⟨by rw[cond_false];omega,uE (by rw[cond_false];omega)⟩
theorem qh.newRow(hs:qh P C s a w H Φ)(_hcfg:qx P aa)(hC:qD C aa){d id:Nat}(hd:d<aa.nt)(aF:id<10000000){tid:TypeId}{e:Ty}{l:List e.den}{v:Value}{w':World}{xs:List Value}(dH:Jn id v)(hn:e.aD=true)(hm:jO jA w w')
  (hown:w'.ownsRow 0 tid e.size v l.length xs) (hch:qd (qm P e w' H) l xs []) (hnew:∀b,v.ownBlock=some b->w.heap.size<=b/\b<w'.heap.size):
  ∃aU,qh P C ((s.newObj id true (.list true tid e) l).set d (.view id [])) (a.put (some d) v) w' H aU:=by
 have h1:=hs.newObj hm (hC.gQ id aF) (φ:=⟨0,v,v.ownBlock.toList⟩) dH (row:=true) (τ:=.list true tid e) (x:=l)
  ⟨by simpa[Ty.eM,Ty.aD]using hn,by cases v.ownBlock<;>simp,rfl,[v],rfl,v,xs,[],rfl,by simp,hown,hch⟩ (by
   intro b hb
   have hb':v.ownBlock=some b:=by simpa using hb
   obtain⟨h2,h3⟩:=hnew b hb'
   refine⟨?_,.inr (Nat.le_trans hs.mod.size h2),h3,λj o' _ hj hb=>?_⟩
   ·cases hq:H b with
    |none=>rfl
    |some c=>exact absurd (hs.hok.lt hq) (by omega)
   ·have:=((hs.os j o' hj).2 _ hb).2.2
    omega)
 refine⟨_,h1.set (by rw[hC.nt];exact hd) ⟨⟨true,.list true tid e,l⟩,⟨.list true tid e,l⟩,?_,qO _ _,?_⟩⟩
 ·rw[St.newObj,St.ak,if_pos rfl]
 ·simp only[List.isEmpty_nil,Bool.and_self,qt]
theorem MO{R:Type}{n:Int}{k:Option R}{r:R}(h:qo n k=some r):0<=n/\n<=274877906944/\k=some r:=by
 rw[jQ]at h
 split at h
 ·exact⟨by omega,by omega,h⟩
 ·cases h
theorem qkS(ae:qx P aa)(hC:qD C aa){T:TypeId}{x y:Operand}(hs:qh P C s a w H Φ)(hd:qK aa.nt dst=true)(h:qM aa ⟨dst,.makeSlice T x y,ty,pos,after,guard⟩ s k=some r):
  ∃s',k s'=some r/\ew P C ⟨dst,.makeSlice T x y,ty,pos,after,guard⟩ a w s':=by
 simp only[qM]at h
 split at h
 case h_2=>cases h
 rename_i d tid e l c hl hc hst
 obtain⟨av,Cw,bn⟩:=Option.bind_eq_some_iff.1 hl
 obtain⟨bv,hc1,hc2⟩:=Option.bind_eq_some_iff.1 hc
 obtain⟨k1,uK⟩:=Uk bn (ql hs qy Cw)
 obtain⟨k2,fV⟩:=Uk hc2 (ql hs qy hc1)
 cases hq:e.aD&&decide (lk aa.ty T=some (.list false tid e.fz))with
 |false=>rw[hq]at h;cases h
 |true=>
  rw[hq,cond_true]at h
  rw[Bool.and_eq_true]at hq
  obtain⟨hn,hT⟩:=hq
  obtain⟨a_,_⟩:=ae.ty T _ (of_decide_eq_true hT)
  obtain⟨hu,he⟩:=a_.list
  have he:=qT.gw he
  obtain⟨h0,h⟩:=vm h
  obtain⟨h1,h⟩:=vm h
  obtain⟨h2,h3,h⟩:=MO h
  obtain⟨i,hi,hsz,hpos,hby,hz⟩:=he.info
  have Iv:(j7 e e.zeroCells).cells.toList=e.zeroCells:=Bc (by rintro x y rfl;exact he.bT) (Ty.aA e) (Ty.dm e)
  have hzs:(j7 e e.zeroCells).cells.size=e.size:=by rw[<-Array.length_toList,Iv,Ty.aA]
  have hb:(i.bytes:Int)*c<=281474976710656:=by
   have h4:i.bytes*c.toNat<=512*274877906944:=Nat.mul_le_mul hby (by omega)
   have h5:((i.bytes*c.toNat:Nat):Int)=(i.bytes:Int)*c:=by rw[Int.natCast_mul,Int.toNat_of_nonneg (by omega)]
   omega
  have hrun:=run_make (P:=P) w T tid i _ hu hi hz k1 k2 l c h0 h1 hb (by omega)
  have hm:=Ko w (.cells (madeCells (j7 e e.zeroCells).cells (c.toNat*i.size)) tid)
  have hml:(madeCells (j7 e e.zeroCells).cells (c.toNat*i.size)).toList=(List.replicate c.toNat e.zeroCells).flatten:=by
   have:=qhg (j7 e e.zeroCells).cells (by omega) c.toNat
   rw[hzs,Iv]at this
   rw[hsz];exact this
  have hlz:(List.replicate l.toNat e.zeroCells).flatten.length=l.toNat*e.size:=by simp[Ty.aA]
  have rj:(List.replicate c.toNat e.zeroCells).flatten=(List.replicate l.toNat e.zeroCells).flatten++(List.replicate (c.toNat-l.toNat) e.zeroCells).flatten:=by
   rw[<-List.flatten_append,List.replicate_append_replicate];congr 2;omega
  have hmk:=qov ae (d:=d) (Eq.mp Nat.blt_eq hd) (v:=.slice (some ⟨w.heap.size,0,none⟩) l.toNat c.toNat) ⟨_,_,_,rfl⟩
  obtain⟨aU,h4⟩:=hs.newRow (w':=w.alloc (.cells (madeCells (j7 e e.zeroCells).cells (c.toNat*i.size)) tid)) (tid:=tid) (e:=e) (l:=List.replicate l.toNat e.zero) (v:=.slice (some ⟨w.heap.size,0,none⟩) l.toNat c.toNat) (xs:=(List.replicate l.toNat e.zeroCells).flatten) ae hC (Eq.mp Nat.blt_eq hd) hmk.1 hmk.2 hn hm
   ⟨by rw[List.length_replicate,hlz],.inr ⟨w.heap.size,c.toNat,_,by rw[List.length_replicate],Nat.zero_le _,heap_alloc_new w _,by rw[List.length_replicate];omega,by unfold maxLen;omega,by rw[size_madeCells,hsz],by rw[List.length_replicate,hml,rj,<-hlz,List.take_left]⟩⟩
   (qd.replicate (qm.zero e hn) l.toNat) (by intro b hb;simp only[Value.ownBlock,Option.some.injEq]at hb;subst hb;exact⟨Nat.le_refl _,by simp⟩)
  refine⟨_,h,pW (w':=w.alloc (.cells (madeCells (j7 e e.zeroCells).cells (c.toNat*i.size)) tid)) (v:=.slice (some ⟨w.heap.size,0,none⟩) l.toNat c.toNat) ?_ ⟨H,aU,h4⟩⟩
  simp[execOp,uK,fV,hrun]
theorem qfX{own:Bool}{tid:TypeId}{σ e:Ty}{y:σ.den}{l:List e.den}(h:qF σ (.list own tid e) y=some l):σ = .list own tid e/\HEq y l:=by
 obtain⟨e1,h2⟩:=qg h
 subst e1
 exact⟨rfl,by rw[h2]⟩
theorem qmz(_hcfg:qx P aa)(hC:qD C aa)(hs:qh P C s a w H Φ)(hd:qK aa.nt dst=true){id:Nat}{p:List qu}{o:Obj}(ho:s.obj id=some o){T tid:TypeId}{e:Ty}(hu:P.underlying T=some (.slice tid))(he:qT P tid e)(hn:e.aD=true){l:List e.den}(hy:qU o.τ o.x p=some ⟨.list true tid e,l⟩)
  {v:Value} (hr:qi P C w H Φ s.obj (.view id p) v) {x2:Value} {m:Nat} {news:List Value} (hx:DR w e.size x2 m news) {l2:List e.den} (hm:l2.length=m) {GD:List Nat} (n_:qd (qm P e w H) l2 news GD) (abq:GD.Nodup) (hfree:∀b∈GD,ei C w H Φ s.obj b) (hlen:l.length+m<=274877906944):
  ∃v' w',(Builtin.append_ #[T,T] ty #[v,x2]).run P w = .ok v' w'/\qh P C ((s.af (AV.js id o.row p)).ah dst (.d_ id p tid e (l++l2))) (a.put dst v') w' H Φ:=by
 have hok:=(hs.os id o ho).1
 have bF:=(hs.os id o ho).2
 obtain⟨cs,fp,hv,an,hsub,ID⟩:=wA hr ho hok hy
 replace an:qm P (.list true tid e) w H l cs fp:=an
 replace hv:v=j7 (.list true tid e) cs:=hv
 obtain⟨ax,xs,aC,rfl,rfl,hown,hch⟩:=an
 replace hv:v=ax:=hv
 subst hv
 obtain⟨v',w',hrun,wR,KN,hg,hblk⟩:=qdx hu he ty hown hx (qd.all (λ_ _ _ hh=>qm.one e hh) n_) hlen
 have gZ:∀b,v.ownBlock=some b->b∈(Φ id).fp:=λb hb=>hsub b (by rw[hb];simp)
 have hin:∀b∈aC,b∈(Φ id).fp:=λb hb=>hsub b (by simp[hb])
 have hne:∀b∈aC,some b≠v.ownBlock:=by
  intro b hb hh
  rw[<-hh]at ID
  simp only[Option.toList_some,List.singleton_append,List.nodup_cons]at ID
  exact ID.1 hb
 have NB:∀b∈aC,w'.heap[b]? = w.heap[b]?:=λb hb=>hg.block b (bF b (hin b hb)).2.2 (hne b hb)
 have NA:∀b∈GD,w'.heap[b]? = w.heap[b]?:=λb hb=>hg.block b (hfree b hb).lt (λhh=>(hfree b hb).obj id o ho (gZ b hh.symm))
 have Wo:qd (qm P e w' H) l xs aC:=qd.dB (Q:=λb=>w'.heap[b]? = w.heap[b]?) (λ_ _ _ hf hh=>qm.mono e (FH.le_refl _) hf hh) NB hch
 have aby:qd (qm P e w' H) l2 news GD:=qd.dB (Q:=λb=>w'.heap[b]? = w.heap[b]?) (λ_ _ _ hf hh=>qm.mono e (FH.le_refl _) hf hh) NA n_
 have tZ:qm P (.list true tid e) w' H l [v] (v.ownBlock.toList++aC):=⟨v,xs,aC,rfl,rfl,KN,Wo⟩
 have bh:qR P w' H ⟨o.row,o.τ,o.x⟩ (Φ id)/\(∀b∈v.ownBlock.toList++aC,ia P w' H o (Φ id) p b)/\((o.row&&p.isEmpty)=true\/∃b1 o1,jV w o (Φ id) p b1 o1/\uv P w w' H b1 o1 ⟨.list true tid e,l⟩/\w'.heap[b1]? = w.heap[b1]?):=by
  cases gW:o.row&&p.isEmpty with
  |true=>
   have aaX:=gW
   simp only[Bool.and_eq_true,List.isEmpty_iff]at gW
   obtain⟨hrow,rfl⟩:=gW
   rw[qO]at hy
   obtain⟨q1,q2,q3⟩:=hok
   obtain⟨row,τ,ox⟩:=o
   simp only at hrow
   subst hrow
   simp only[Option.some.injEq,Sigma.mk.injEq]at hy
   obtain⟨rfl,Cc⟩:=hy
   simp only[heq_eq_eq]at Cc
   subst Cc
   have hrl:=qR.dz ⟨q1,q2,q3⟩
   obtain⟨o',y',p1,p2,p3⟩:=hr
   rw[ho]at p1
   cases p1
   have hh:v=(Φ id).ax:=p3
   rw[<-hh]at hrl
   have bl:=qm.cg _ hrl ⟨v,xs,aC,rfl,rfl,hown,hch⟩
   refine⟨qR.eX q1 q2 ?_,λb hb=>?_,.inl rfl⟩
   ·rw[bl,<-hh]
    exact tZ
   ·unfold ia
    rw[aaX]
    show b∈(Φ id).fp
    rw[bl]
    exact hb
  |false=>
   have VT:∃w0 b off,jV w0 o (Φ id) p b off:=by
    obtain⟨ob2,y',p1,p2,p3⟩:=hr
    rw[ho]at p1
    cases p1
    rw[gW]at p3
    obtain⟨b,off,_,_,k,_⟩:=p3
    exact⟨w,b,off,k⟩
   obtain⟨b',o',aX,t',pre',c,post',f1,f,f2,e1,e2,e3,e4,e5,e6,hl',e7⟩:=hok.h_ (σ:=.list true tid e) (y:=(l:(Ty.list true tid e).den)) hy VT gW
   have Le:c=[v]/\f=v.ownBlock.toList++aC:=by
    obtain⟨ob2,y',p1,p2,p3⟩:=hr
    rw[ho]at p1
    cases p1
    rw[gW]at p3
    rw[hy]at p2
    cases p2
    obtain⟨b2,off,blk,t,q4,q5,q6⟩:=p3
    obtain⟨rfl,rfl⟩:=jV.fN q4 (hl' w (λ_ _=>rfl))
    rw[e1]at q5
    cases q5
    have hlc:=qm.length _ e6
    have hc1:c=[v]:=by
     match c,hlc with
     |[u],_=>
      have:v=u:=by
       rw[q6,<-e3]
       exact congrArg (j7 (.list true tid e)) (qZ (n:=1) e2 rfl)
      rw[this]
    subst hc1
    exact⟨rfl,qm.cg _ e6 ⟨v,xs,aC,rfl,rfl,hown,hch⟩⟩
   obtain⟨rfl,rfl⟩:=Le
   have aq:=hok.2.1
   rw[e4]at aq
   have hbk:∀k,(k∈f1\/k∈f2)->some k≠v.ownBlock/\k<w.heap.size:=by
    intro k hk
    refine⟨λhh=>?_,(bF k (by rw[e4];rcases hk with h|h<;>simp[h])).2.2⟩
    rw[<-hh]at aq
    simp only[Option.toList_some,List.nodup_append,List.mem_append,List.mem_singleton]at aq
    rcases hk with hk|hk
    ·exact aq.1.2.2 k hk k (.inl rfl) rfl
    ·exact aq.2.2 k (.inr (.inl rfl)) k hk rfl
   have hsame:∀k,(k∈f1\/k∈f2)->w'.heap[k]? = w.heap[k]?:=λk hk=>hg.block k (hbk k hk).2 (hbk k hk).1
   have:=e7 w' [v] (v.ownBlock.toList++aC) (.list true tid e) l o.x tZ (MH _ hy) (by rw[hsame b' (.inl e5),e1,<-e2]) (λk hk _=>hsame k (List.mem_append.1 hk)) aq
   rw[<-e4]at this
   have CF:uv P w w' H b' o' ⟨.list true tid e,l⟩:=by
    refine⟨[v],v.ownBlock.toList++aC,e6,λi hi=>?_,λk hk _ NM=>hg.block k hk (λe=>NM (by rw[<-e];simp)),λi _=>World.cell?_of_block (a:=⟨b',i,none⟩) (hsame b' (.inl e5))⟩
    have hi:i<1:=hi
    obtain rfl:i=0:=by omega
    rw[qw e1,<-Array.getElem?_toList,e2,<-e3]
    simp
   refine⟨this,?_,.inr ⟨b',o',hl' w (λ_ _=>rfl),CF,hsame b' (.inl e5)⟩⟩
   intro b hb
   unfold ia
   rw[gW]
   refine⟨⟨.list true tid e,l⟩,b',o',aX,t',v.ownBlock.toList++aC,hy,hl' w' (λk hk=>hsame k (.inl hk)),(hsame b' (.inl e5)).trans e1,?_,hb⟩
   have kN:ct aX o' (Ty.list true tid e).size=[v]:=by rw[<-e3];exact qZ e2 rfl
   simp only[kN]
   exact tZ
 obtain⟨bh,uP,gX⟩:=bh
 have rm:∀j o',j≠id->s.obj j=some o'->∀b∈(Φ j).fp,w'.heap[b]? = w.heap[b]?/\H b=none:=by
  intro j o' hj cu b hb
  refine⟨hg.block b ((hs.os j o' cu).2 b hb).2.2 (λhh=>?_),((hs.os j o' cu).2 b hb).1⟩
  exact hs.aN id j o o' (λe=>hj e.symm) ho cu b (gZ b hh.symm) hb
 have KR:jO (λk=>some k=v.ownBlock) w w':=⟨hg.os,hg.tape,hg.output,hg.size,λk hk hM=>hg.block k hk hM⟩
 have cH:jO C.M0 C.w0 w':=hs.mod.bA KR (λk hk=>(bF k (gZ k hk.symm)).2.1)
 have abk:cI H w':=hs.hok.mod KR (λb hb=>(bF b (gZ b hb.symm)).1)
 have KT:∀q,(o.row&&q.isEmpty)=false->jl p q=true->∀y,qU o.τ o.x q=some y->∀b off,jV w o (Φ id) q b off->jV w' ⟨o.row,o.τ,o.x⟩ (Φ id) q b off/\iR w w' b off (off+y.1.size):=by
  intro q hq hwq y2 hy2 b2 iv bn
  rcases gX with gX|⟨b1,o1,k1,k2,k3⟩
  ·simp only[Bool.and_eq_true,List.isEmpty_iff]at gX
   obtain⟨kC,rfl⟩:=gX
   cases q with
   |nil=>rw[kC]at hq;cases hq
   |cons a q=>simp[jl]at hwq
  ·obtain⟨q1,q2⟩:=hok.stay ⟨rfl,rfl⟩ hwq hy hy2 k1 bn k2 o.x
   exact⟨q1,q2 (.inr k3)⟩
 have hch:=hs.lu (F:=AV.js id o.row p) ho o.x (Φ id) rfl rfl (FH.le_refl H) abk hs.hnew cH hg.size rm bh (λb hb=>⟨(bF b hb).1,(bF b hb).2.1,Nat.lt_of_lt_of_le (bF b hb).2.2 hg.size,λj o' hj cu hb'=>hs.aN id j o o' (λe=>hj e.symm) ho cu b hb hb'⟩)
  (λq hf=>by
   simp only[AV.js,Nat.beq_refl,Bool.true_and]at hf
   cases hq:q.any qu.dW with
   |false=>exact .inl rfl
   |true=>
    rw[hq,Bool.true_and,Bool.not_eq_false']at hf
    have hqe:(o.row&&q.isEmpty)=false:=by
     cases q with
     |nil=>simp at hq
     |cons _ _=>simp
    exact .inr λy2 hy2=>⟨λb off bn=>(KT q hqe hf y2 hy2 b off bn).1,y2.2,hy2⟩)
  (λ_ _ _ _ _=>rfl)
  (λq hf=>by
   simp only[AV.js,Nat.beq_refl,Bool.true_and]at hf
   cases Cg:o.row&&q.isEmpty with
   |true=>exact .inl rfl
   |false=>
    right
    rw[Cg,Bool.not_false,Bool.true_and,Bool.not_eq_false']at hf
    intro y2 b2 iv Jq t2 _ hy2 bn gp
    obtain⟨k1,k2⟩:=KT q Cg hf y2 hy2 b2 iv bn
    obtain⟨mN,t3,Lc⟩:∃mN t3,w'.heap[b2]? = some (.cells mN t3 (0,0)):=by
     by_cases Sk:some b2=v.ownBlock
     ·rcases KN.2 with⟨e0,_⟩|⟨g,cap,cur,e0,_,uQ,_⟩
      ·rw[e0]at Sk;simp[Value.ownBlock]at Sk
      ·rw[e0]at Sk
       simp only[Value.ownBlock,Option.some.injEq]at Sk
       subst Sk
       exact⟨_,_,uQ⟩
     ·exact⟨_,_,(hg.block b2 (Array.getElem?_eq_some_iff.1 gp).1 Sk).trans gp⟩
    exact⟨y2,b2,iv,_,_,rfl,hy2,k1,Lc,qiF k2 gp Lc⟩)
 have gV:rX Φ id (Φ id)=Φ:=by
  funext j
  unfold rX
  split
  ·rename_i e;rw[e]
  ·rfl
 rw[gV]at hch
 have hcg:=hch.congr (s':=s.af (AV.js id o.row p)) rfl (by
  funext j
  rw[St.ak,St.cU]
  split
  ·rename_i e;rw[<-e];exact ho
  ·rfl)
 have aaQ:=jH _ hy
 have hnew:∀g,v'.ownBlock=some g->some g≠v.ownBlock->w.heap.size<=g/\g<w'.heap.size:=by
  intro g hg1 hg2
  rcases hblk with cO|⟨g2,cO,h5,h6⟩
  ·rw[cO]at hg1;exact absurd hg1.symm hg2
  ·rw[cO]at hg1;cases hg1;exact⟨h5,h6⟩
 refine⟨v',w',hrun,hcg.ah (by rw[hC.nt];exact hd) ⟨o,ho,hn,aaQ,v'.ownBlock.toList++(aC++GD),?_,⟨v',xs++news,aC++GD,rfl,rfl,by rw[List.length_append,hm];exact wR,qd.append Wo aby⟩,?_⟩⟩
 ·have hd1:∀b∈aC,b∉GD:=λb hb hb'=>(hfree b hb').obj id o ho (hin b hb)
  have hd2:∀g,v'.ownBlock=some g->g∉aC/\g∉GD:=by
   intro g hg1
   by_cases hg2:some g=v.ownBlock
   ·exact⟨λhh=>hne g hh hg2,λhh=>(hfree g hh).obj id o ho (gZ g hg2.symm)⟩
   ·obtain⟨h5,_⟩:=hnew g hg1 hg2
    exact⟨λhh=>by have:=(bF g (hin g hh)).2.2;omega,λhh=>by have:=(hfree g hh).lt;omega⟩
  have yj:aC.Nodup:=(List.nodup_append.1 ID).2.1
  have dJ:(aC++GD).Nodup:=List.nodup_append.2 ⟨yj,abq,λb hb _ hb' e=>hd1 b hb (e▸hb')⟩
  cases Vx:v'.ownBlock with
  |none=>simpa using dJ
  |some g=>
   simp only[Option.toList_some,List.singleton_append,List.nodup_cons,List.mem_append]
   exact⟨λhh=>hh.elim (hd2 g Vx).1 (hd2 g Vx).2,dJ⟩
 ·intro b hb
  simp only[List.mem_append,Option.mem_toList]at hb
  rcases hb with hb|hb|hb
  ·by_cases hg2:some b=v.ownBlock
   ·exact⟨Nat.lt_of_lt_of_le (bF b (gZ b hg2.symm)).2.2 hg.size,.inr (uP b (by rw[<-hg2];simp))⟩
   ·obtain⟨h5,h6⟩:=hnew b hb hg2
    refine⟨h6,.inl ⟨?_,λj o' hj dY=>?_,.inr (Nat.le_trans hs.mod.size h5),h6⟩⟩
    ·cases hq:H b with
     |none=>rfl
     |some c=>exact absurd (hs.hok.lt hq) (by omega)
    ·have:=((hs.os j o' hj).2 _ dY).2.2
     omega
  ·exact⟨Nat.lt_of_lt_of_le (bF b (hin b hb)).2.2 hg.size,.inr (uP b (by simp[hb]))⟩
  ·have hf:=hfree b hb
   exact⟨Nat.lt_of_lt_of_le hf.lt hg.size,.inl ⟨hf.fz,hf.obj,hf.may,Nat.lt_of_lt_of_le hf.lt hg.size⟩⟩
theorem ql0(ae:qx P aa)(hC:qD C aa){x y:Operand}{T:TypeId}{av bv:AV}{tid:Nat}{t:Ty}(hs:qh P C s a w H Φ)(hd:qK aa.nt dst=true)(hr:qi P C w H Φ s.obj av (a.eval x))(fh:qi P C w H Φ s.obj bv (a.eval y))(h:qhA s dst (lk aa.ty T) tid t av bv k=some r):
  ∃s',k s'=some r/\ew P C ⟨dst,.call ⟨.builtin .append,#[x,y],#[T,T]⟩,ty,pos,after,guard⟩ a w s':=by
 unfold qhA at h
 cases h
theorem qnf(ae:qx P aa)(hC:qD C aa){c:Call}(hc:c.callee = .builtin .append)(hX:TN aa c=none)(hs:qh P C s a w H Φ)(hd:qK aa.nt dst=true)(h:qM aa ⟨dst,.call c,ty,pos,after,guard⟩ s k=some r):
  ∃s',(qf6 aa dst k s'=some r\/k s'=some r)/\ew P C ⟨dst,.call c,ty,pos,after,guard⟩ a w s':=by
 simp only[qM,hc,hX]at h
 split at h
 case h_2=>cases h
 rename_i x y T T' hxy Ll
 split at h
 case h_2=>cases h
 rename_i av bv gq gp
 cases hq:Nat.beq T T' with
 |false=>rw[hq]at h;cases h
 |true=>
 rw[hq,cond_true]at h
 obtain rfl:=Nat.eq_of_beq_eq_true hq
 have hr:=ql hs (ae.fz T) gq
 have fh:=ql hs (ae.fz T) gp
 have e2:c=⟨.builtin .append,#[x,y],#[T,T]⟩:=by
  obtain⟨c1,c2,c3⟩:=c
  simp only at hc hxy Ll
  rw[hc,<-Array.toArray_toList (xs:=c2),hxy,<-Array.toArray_toList (xs:=c3),Ll]
 subst e2
 split at h
 ·obtain⟨s',h1,h2⟩:=ql0 ae hC hs hd hr fh h
  exact⟨s',.inr h1,h2⟩
 unfold qoa at h
 split at h
 case h_2=>cases h
 rename_i own tid e hT
 obtain⟨a_,hfz⟩:=ae.ty T _ hT
 obtain⟨hu,he⟩:=a_.list
 have oO:e.ay=true:=by simp only[Ty.ay,Bool.and_eq_true]at hfz;exact hfz.2
 cases hn:e.aD with
 |false=>rw[hn]at h;cases h
 |true=>
 rw[hn,cond_true]at h
 split at h
 ·rename_i o2 ack e2 l0
  split at h
  case h_2=>cases h
  rename_i cv
  obtain⟨hv,_⟩:=qfn (a:=a) ⟨cv,rfl⟩ gq
  obtain⟨l2,h,hel⟩:=Zm hs fh oO h
  obtain⟨h2,h3,h⟩:=MO h
  split at h
  case h_2=>cases h
  rename_i d
  obtain⟨v',w',news,hrun,hch,hown,_,hg,hblk⟩:=qiJ hu he ty (World.ownsRow_nil w 0 tid e.size) hel (by omega)
  have hm:jO jA w w':=⟨hg.os,hg.tape,hg.output,hg.size,λk hk _=>hg.block k hk (by simp[Value.ownBlock])⟩
  simp only[Nat.zero_add,List.nil_append]at hown
  obtain⟨aU,h4⟩:=hs.newRow (l:=l2) ae hC (Eq.mp Nat.blt_eq hd) (Nat.lt_trans (ae.low (Eq.mp Nat.blt_eq hd)) (by decide)) (uE (ae.low (Eq.mp Nat.blt_eq hd))) hn hm hown (qd.mono (λ_ _ _ hh=>by
   have nF:=qm.dg e oO hh
   subst nF
   exact qm.mono e (FH.le_refl _) (by simp) hh) hch) (by
   intro b hb
   rcases hblk with hb'|⟨g,hb',h5,h6⟩
   ·rw[hb']at hb;simp[Value.ownBlock]at hb
   ·rw[hb']at hb;cases hb;exact⟨h5,h6⟩)
  refine⟨_,.inl h,pW (w':=w') (v:=v') ?_ ⟨H,aU,h4⟩⟩
  simp[execOp,resolve,invoke,builtin,hv,hrun]
 ·rename_i id p
  split at h
  case h_2=>cases h
  rename_i o ho
  rw[jJ]at h
  replace h:=Option.bind_eq_some_iff.1 h
  obtain⟨yy,hy,h⟩:=h
  obtain⟨σ,yy⟩:=yy
  simp only[qj]at h
  replace h:=Option.bind_eq_some_iff.1 h
  obtain⟨l,hl,h⟩:=h
  obtain⟨rZ,KE⟩:=qfX hl
  subst rZ
  obtain rfl:=eq_of_heq KE
  obtain⟨l2,h,hel⟩:=Zm hs fh oO h
  obtain⟨h2,h3,h⟩:=MO h
  obtain⟨news,NC,n_⟩:=FY.raw hel
  obtain⟨v',w',hrun,bE⟩:=qmz (ty:=ty) ae hC hs hd ho hu he hn hy hr NC rfl n_ List.nodup_nil (by simp) (by omega)
  refine⟨_,.inl h,pW (w':=w') (v:=v') ?_ ⟨H,Φ,bE⟩⟩
  simp[execOp,resolve,invoke,builtin,hrun]
 ·cases h
theorem Dq{os:Nat->Option Obj}{av:AV}{v:Value}{id:Nat}{lo:Int}(h:Dr av=some (id,lo))(hr:qi P C w H Φ os av v):∃v0,DM w Φ os id [] v0/\((lo=0/\v=v0)\/XU v0 1 lo v):=by
 unfold Dr at h
 split at h
 ·cases h
  exact⟨v,hr,.inl ⟨rfl,rfl⟩⟩
 ·rename_i z lo'
  cases hz:Nat.beq z 1 with
  |false=>rw[hz]at h;cases h
  |true=>
  rw[hz,cond_true]at h
  cases h
  obtain rfl:=Nat.eq_of_beq_eq_true hz
  obtain⟨v0,h1,h2⟩:=hr
  exact⟨v0,h1,.inr h2⟩
 ·cases h
theorem Ut{α:Type}(l l2:List α){lo:Nat}(h:lo<=l.length):(sH l l2 lo).length=l.length:=by
 unfold sH
 simp only[List.length_append,List.length_take,List.length_drop]
 omega
theorem qm6{α:Type}(l l2:List α){lo:Nat}(h:lo<=l.length)(h0:min l2.length (l.length-lo)=0):sH l l2 lo=l:=by
 unfold sH
 have:l2.take (l.length-lo)=[]:=by
  apply List.eq_nil_of_length_eq_zero
  rw[List.length_take]
  omega
 rw[this,h0,List.append_nil,Nat.add_zero,List.take_append_drop]
theorem qd.over{α:Type}{R:α->List Value->List Nat->Prop}(hn:∀x c f,R x c f->c.length=1){l l2:List α}{xs ys:List Value}(h1:qd R l xs [])(h2:qd R l2 ys [])(lo:Nat):qd R (sH l l2 lo) (sH xs ys lo) []:=by
 have e1:=qd.length hn h1
 have e2:=qd.length hn h2
 rw[Nat.mul_one]at e1 e2
 obtain⟨f1,a1,g1,b1⟩:=qd.take hn h1 lo
 obtain⟨f2,a2,g2,b2⟩:=qd.take hn h2 (l.length-lo)
 obtain⟨f3,a3,g3,b3⟩:=qd.drop hn h1 (lo+min l2.length (l.length-lo))
 obtain⟨rfl,_⟩:=List.append_eq_nil_iff.1 b1.symm
 obtain⟨rfl,_⟩:=List.append_eq_nil_iff.1 b2.symm
 obtain⟨_,rfl⟩:=List.append_eq_nil_iff.1 b3.symm
 rw[Nat.mul_one]at a1 a2 a3
 have:=qd.append (qd.append a1 a2) a3
 unfold sH
 rw[e1,e2]
 exact this
theorem qoe{α:Type}(c ys:List α)(n lo:Nat)(hn:n<=c.length)(hlo:lo<=n):(c.take lo++ys.take (n-lo)++c.drop (lo+min ys.length (n-lo))).take n=sH (c.take n) ys lo:=by
 unfold sH
 have h1:(c.take lo++ys.take (n-lo)).length=lo+min ys.length (n-lo):=by
  rw[List.length_append,List.length_take,List.length_take]
  omega
 rw[List.length_take,Nat.min_eq_left hn,List.take_take,Nat.min_eq_left hlo,List.drop_take,List.take_append,h1,List.take_of_length_le (by rw[h1];omega)]
theorem HZ(ae:qx P aa)(hC:qD C aa){c:Call}(hc:c.callee = .builtin .copy)(hs:qh P C s a w H Φ)(hd:qK aa.nt dst=true)(h:qM aa ⟨dst,.call c,ty,pos,after,guard⟩ s k=some r):
  ∃s',k s'=some r/\ew P C ⟨dst,.call c,ty,pos,after,guard⟩ a w s':=by
 simp only[qM,hc]at h
 split at h
 case h_2=>cases h
 rename_i x y T T' hxy Ll
 split at h
 case h_2=>cases h
 rename_i av bv gq gp
 have hr:=ql hs (ae.fz T) gq
 have fh:=ql hs (ae.fz T') gp
 have e2:c=⟨.builtin .copy,#[x,y],#[T,T']⟩:=by
  obtain⟨c1,c2,c3⟩:=c
  simp only at hc hxy Ll
  rw[hc,<-Array.toArray_toList (xs:=c2),hxy,<-Array.toArray_toList (xs:=c3),Ll]
 subst e2
 unfold Lt at h
 split at h
 case h_2=>cases h
 rename_i own tid e hT
 obtain⟨a_,hfz⟩:=ae.ty T _ hT
 obtain⟨hu,he⟩:=a_.list
 have oO:e.ay=true:=by simp only[Ty.ay,Bool.and_eq_true]at hfz;exact hfz.2
 cases hfl:e.az&&Nat.beq e.size 1 with
 |false=>rw[hfl]at h;cases h
 |true=>
 rw[hfl,cond_true]at h
 have hsz:e.size=1:=Nat.eq_of_beq_eq_true (Bool.and_eq_true_iff.1 hfl).2
 split at h
 case h_2=>cases h
 rename_i id lo CD
 split at h
 case h_2=>cases h
 rename_i o ho
 cases hrow:o.row with
 |false=>rw[hrow]at h;cases h
 |true=>
 rw[hrow,cond_true]at h
 simp only[qj]at h
 replace h:=Option.bind_eq_some_iff.1 h
 obtain⟨l,hl,h⟩:=h
 obtain⟨l2,h,hel⟩:=Zm hs fh oO h
 obtain⟨v0,nW,zq⟩:=Dq CD hr
 have hok:=(hs.os id o ho).1
 have bF:=(hs.os id o ho).2
 obtain⟨row,τ,ox⟩:=o
 simp only at hrow
 subst hrow
 obtain⟨lg,KE⟩:=qg hl
 simp only at lg
 subst lg
 simp only at KE
 subst KE
 have cD:=hok
 obtain⟨q1,q2,_⟩:=cD
 have an:=qR.dz hok
 obtain⟨ax,xs,aC,k1,k2,hown,hch⟩:=an
 have nF:=qd.iE (λ_ _ _ hh=>qm.dg e oO hh) hch
 subst nF
 have uP:(Φ id).ax=ax:=by simpa using k1
 have Nz:v0=ax:=by
  obtain⟨o',y',p1,_,p3⟩:=nW
  rw[ho]at p1
  cases p1
  exact p3.trans uP
 subst Nz
 have Wd:∃i,P.info? tid=some i/\i.size=1:=by
  obtain⟨i,hi,hs1,_⟩:=he.info
  exact⟨i,hi,hs1.trans hsz⟩
 obtain⟨inf,hi,NS⟩:=Wd
 have NP:(P.info? tid).map (·.size)=some 1:=by rw[hi];simp[NS]
 have hone:∀x c f,qm P e w H x c f->c.length=1:=λx c f hh=>(qm.length e hh).trans hsz
 have kg:∃ad cap,a.eval x = .slice ad (l.length-lo.toNat) cap/\lo.toNat<=l.length/\(∀g cur,(∃n c,v0 = .slice (some ⟨g,0,none⟩) n c)->lo.toNat<l.length->w.heap[g]? = some (.cells cur tid (0,0))->ad=some ⟨g,lo.toNat,none⟩):=by
  have hlen:∃ad cap,v0 = .slice ad l.length cap/\l.length<=cap:=by
   rcases hown.2 with⟨rfl,hz⟩|⟨g,cap,cur,rfl,_,_,hnc,_⟩
   ·exact⟨none,0,by rw[hz],by omega⟩
   ·exact⟨_,cap,rfl,hnc⟩
  obtain⟨ad,cap,rfl,hnc⟩:=hlen
  rcases zq with⟨rfl,hv⟩|⟨ad',n,cap',e1,h0,hn,hv⟩
  ·refine⟨ad,cap,by rw[hv];rfl,Nat.zero_le _,?_⟩
   rintro g cur ⟨n,c,e1⟩ _ _
   cases e1
   rfl
  ·cases e1
   refine⟨_,_,hv,hn,?_⟩
   rintro g cur ⟨n,c,e1⟩ hlt _
   cases e1
   rw[if_neg (by omega)]
   simp[Addr.fB]
 obtain⟨ad,cap,hva,hlo,had⟩:=kg
 have hmin:Nat.min l2.length (l.length-lo.toNat)=min l2.length (l.length-lo.toNat):=rfl
 have hsrc:∃Xv yF,a.eval y = .slice Xv l2.length yF:=by
  rcases hel with(⟨rfl,hv⟩|⟨b,o2,c2,ys,hv,_⟩)|⟨rfl,Xv,c2,hv⟩
  ·exact⟨none,0,hv⟩
  ·exact⟨_,_,hv⟩
  ·exact⟨Xv,c2,hv⟩
 obtain⟨Xv,yF,Vx⟩:=hsrc
 by_cases hm0:min l2.length (l.length-lo.toNat)=0
 ·have hrun:=run_copy_none (P:=P) w T T' ty tid ad Xv (l.length-lo.toNat) cap l2.length yF hu NP (hmin.trans hm0)
  rw[qm6 l l2 hlo hm0,hm0]at h
  have n_:=hs.change ho l (Φ id) rfl rfl (FH.le_refl H) hs.hok hs.hnew hs.mod (Nat.le_refl _) (λj o' hj cu b hb=>⟨rfl,((hs.os j o' cu).2 b hb).1⟩) hok (λb hb=>⟨(bF b hb).1,(bF b hb).2.1,(bF b hb).2.2,λj o' hj cu hb'=>hs.aN id j _ o' (λe=>hj e.symm) ho cu b hb hb'⟩)
  refine⟨_,h,pW (w':=w) (v:=goInt 0) ?_ ⟨H,_,n_.ah (by rw[hC.nt];exact hd) (qi.bc _ _ _ _ _ _)⟩⟩
  simp[execOp,resolve,invoke,builtin,hva,Vx,hrun]
 ·rcases hown.2 with⟨_,hz⟩|⟨g,Xh,cur,rfl,_,hg,hnc,wU,hcs,cC⟩
  ·exact absurd (by omega) hm0
  rcases hel with(⟨rfl,_⟩|⟨b2,o2,c2,ys,fV,hys,hcells⟩)|⟨rfl,_⟩
  ·simp at hm0
  ·rw[fV]at Vx
   have Iy:=qd.length hone hys
   rw[Nat.mul_one]at Iy
   have aaP:=qd.length hone hch
   rw[Nat.mul_one]at aaP
   rw[hsz,Nat.mul_one]at hcs cC
   have NZ:(ys.take (l.length-lo.toNat)).length=min l2.length (l.length-lo.toNat):=by rw[List.length_take,Iy];omega
   have abB:=had g cur ⟨_,_,rfl⟩ (by omega) hg
   have hrun:=run_copy_row (P:=P) w T T' ty tid g lo.toNat (l.length-lo.toNat) cap ⟨b2,o2,none⟩ l2.length c2 cur tid (ys.take (l.length-lo.toNat)) hu NP hg (NZ.trans hmin.symm)
    (λj u hj=>hcells j u (by
     rw[List.getElem?_take]at hj
     by_cases hjj:j<l.length-lo.toNat
     ·rwa[if_pos hjj]at hj
     ·rw[if_neg hjj]at hj
      cases hj)) (by rw[NZ,hcs];omega) (λu hu=>qd.all (λ_ _ _ hh=>qm.one e hh) hys u (List.mem_of_mem_take hu))
   rw[NZ]at hrun
   generalize hnew:(cur.toList.take lo.toNat++ys.take (l.length-lo.toNat)++cur.toList.drop (lo.toNat+min l2.length (l.length-lo.toNat))).toArray=new at hrun
   have Gw:(w.setRow g new).heap[g]? = some (.cells new tid (0,0)):=setRow_heap w g cur _ tid _ hg
   have wN:∀k,k≠g->(w.setRow g new).heap[k]? = w.heap[k]?:=λk hk=>setRow_other w g k _ hk
   have aaT:(w.setRow g new).heap.size=w.heap.size:=by simp[World.setRow]
   have KR:jO (λk=>k=g) w (w.setRow g new):=⟨rfl,rfl,rfl,by omega,λk _ hM=>wN k hM⟩
   have NT:g∈(Φ id).fp:=by rw[k2];simp[Value.ownBlock]
   have hnl:new.size=Xh:=by
    rw[<-hnew]
    simp only[List.size_toArray,List.length_append,List.length_take,List.length_drop,Array.length_toList,Iy]
    omega
   have wP:new.toList.take l.length=sH xs ys lo.toNat:=by
    rw[<-hnew,<-cC,<-Iy]
    exact qoe cur.toList ys l.length lo.toNat (by have:=Array.length_toList (xs:=cur);omega) hlo
   have kA:qm P (.list true tid e) (w.setRow g new) H (sH l l2 lo.toNat) [(Φ id).ax] (Φ id).fp:=by
    refine⟨_,sH xs ys lo.toNat,[],by rw[uP],by rw[k2],⟨?_,.inr ⟨g,Xh,new,?_,Nat.zero_le _,Gw,?_,wU,?_,?_⟩⟩,?_⟩
    ·rw[Ut _ _ (by omega),Ut _ _ hlo,hsz];omega
    ·rw[Ut _ _ hlo]
    ·rw[Ut _ _ hlo];exact hnc
    ·rw[hnl,hsz,Nat.mul_one]
    ·rw[Ut _ _ hlo,hsz,Nat.mul_one];exact wP
    ·refine qd.mono (λ_ _ _ hh=>?_) (qd.over hone hch hys lo.toNat)
     have nF:=qm.dg e oO hh
     subst nF
     exact qm.mono e (FH.le_refl _) (by simp) hh
   have n_:=hs.change ho (sH l l2 lo.toNat) (Φ id) rfl rfl (FH.le_refl H) (hs.hok.mod KR (λk hk=>by rw[hk];exact(bF g NT).1)) hs.hnew (hs.mod.bA KR (λk hk=>by rw[hk];exact(bF g NT).2.1)) (by omega)
    (λj o' hj cu b hb=>⟨wN b (λe=>hs.aN id j _ o' (λe=>hj e.symm) ho cu g NT (e▸hb)),((hs.os j o' cu).2 b hb).1⟩) (qR.eX q1 q2 kA)
    (λb hb=>⟨(bF b hb).1,(bF b hb).2.1,by rw[aaT];exact(bF b hb).2.2,λj o' hj cu hb'=>hs.aN id j _ o' (λe=>hj e.symm) ho cu b hb hb'⟩)
   refine⟨_,h,pW (w':=w.setRow g new) (v:=goInt (min l2.length (l.length-lo.toNat):Nat)) ?_ ⟨H,_,n_.ah (by rw[hC.nt];exact hd) (qi.bc _ _ _ _ _ _)⟩⟩
   simp[execOp,resolve,invoke,builtin,hva,fV,abB,hrun]
  ·simp at hm0
theorem Bt(ae:qx P aa)(hC:qD C aa){c:Call}(hc:c.callee = .builtin .clear)(hs:qh P C s a w H Φ)(hd:qK aa.nt dst=true)(h:qM aa ⟨dst,.call c,ty,pos,after,guard⟩ s k=some r):
  ∃s',k s'=some r/\ew P C ⟨dst,.call c,ty,pos,after,guard⟩ a w s':=by
 simp only[qM,hc]at h
 split at h
 case h_2=>cases h
 split at h
 case h_2=>cases h
 unfold DB at h
 cases h
end
end Go.Vi
namespace Go.Vi
section
variable {P:Program} {C:cM} {aa:jB} {R:Type} {r:R} {s:St} {a:Act} {w:World} {H:FH} {Φ:Nat->qH} {dst:Option Nat} {ty:TypeId} {pos:String} {after:Array Edge} {guard:Option (Nat×Bool)} {k:St->Option R}
theorem Kq:(τ:Ty)->∀{x:τ.den} {p:List qu} {σ:Ty} {y:σ.den} {z},j6 τ x p σ y=some z->kq τ p=some σ
 |.pair a b,x,p,σ,y,z,h=>by
  match p with
  |[]=>obtain⟨e,_⟩:=qg h;subst e;rfl
  |.L::q=>obtain⟨z',h',_⟩:=Option.map_eq_some_iff.1 h;exact Kq a h'
  |.R::q=>obtain⟨z',h',_⟩:=Option.map_eq_some_iff.1 h;exact Kq b h'
  |.I _::_=>cases h
 |.str t,x,p,σ,y,z,h=>by
  match p with
  |[]=>obtain⟨e,_⟩:=qg h;subst e;rfl
  |s::q=>exact Kq t h
 |.list true tid e,x,p,σ,y,z,h=>by
  match p with
  |[]=>obtain⟨e,_⟩:=qg h;subst e;rfl
  |.L::_=>cases h
  |.R::_=>cases h
  |.I i::q=>
   simp only[j6]at h
   split at h
   ·replace h:=Option.bind_eq_some_iff.1 h
    obtain⟨z',_,h⟩:=h
    replace h:=Option.map_eq_some_iff.1 h
    obtain⟨_,h,_⟩:=h
    exact Kq e h
   ·cases h
 |.arr n e,x,p,σ,y,z,h=>by
  match p with
  |[]=>obtain⟨e,_⟩:=qg h;subst e;rfl
  |.L::_=>cases h
  |.R::_=>cases h
  |.I i::q=>
   simp only[j6]at h
   split at h
   ·replace h:=Option.bind_eq_some_iff.1 h
    obtain⟨z',_,h⟩:=h
    replace h:=Option.map_eq_some_iff.1 h
    obtain⟨_,h,_⟩:=h
    exact Kq e h
   ·cases h
 |.op t,x,p,σ,y,z,h=>by
  match p with
  |[]=>obtain⟨e,_⟩:=qg h;subst e;rfl
  |.L::_=>cases h
  |.R::_=>cases h
  |.I i::q=>
   simp only[j6]at h
   replace h:=Option.bind_eq_some_iff.1 h
   obtain⟨z',_,h⟩:=h
   replace h:=Option.map_eq_some_iff.1 h
   obtain⟨_,h,_⟩:=h
   exact Kq t h
 |.int _,_,p,_,_,_,h=>by cases p<;>first|(obtain⟨e,_⟩:=qg h;subst e;rfl)|cases h
 |.bool,_,p,_,_,_,h=>by cases p<;>first|(obtain⟨e,_⟩:=qg h;subst e;rfl)|cases h
 |.list false _ _,_,p,_,_,_,h=>by cases p<;>first|(obtain⟨e,_⟩:=qg h;subst e;rfl)|cases h
 |.ptr _,_,p,_,_,_,h=>by cases p<;>first|(obtain⟨e,_⟩:=qg h;subst e;rfl)|cases h
 |.fn _ _,_,p,_,_,_,h=>by cases p<;>first|(obtain⟨e,_⟩:=qg h;subst e;rfl)|cases h
 |.bQ _ _ _,_,p,_,_,_,h=>by cases p<;>first|(obtain⟨e,_⟩:=qg h;subst e;rfl)|cases h
 |.ext _ _ _ _,_,p,_,_,_,h=>by cases p<;>first|(obtain⟨e,_⟩:=qg h;subst e;rfl)|cases h
theorem Zv{P:Program}{w:World}{H:FH}:(σ:Ty)->∀{y:σ.den} {c:List Value} {f:List Nat},σ.aM=true->qm P σ w H y c f->∀v∈c,Iu v=false
 |.int _,y,c,f,_,h,v,hv=>by
  obtain⟨rfl,rfl⟩:=h
  rw[List.mem_singleton.1 hv]
  rfl
 |.bool,y,c,f,_,h,v,hv=>by
  obtain⟨rfl,rfl⟩:=h
  rw[List.mem_singleton.1 hv]
  rfl
 |.pair a b,y,c,f,hb,h,v,hv=>by
  simp only[Ty.aM,Bool.and_eq_true]at hb
  obtain⟨c1,c2,f1,f2,rfl,rfl,r1,r2⟩:=h
  rcases List.mem_append.1 hv with hv|hv
  ·exact Zv a hb.1 r1 v hv
  ·exact Zv b hb.2 r2 v hv
 |.str t,y,c,f,hb,h,v,hv=>Zv t hb h v hv
 |.list _ _ _,_,_,_,hb,_,_,_=>by simp[Ty.aM]at hb
 |.arr _ _,_,_,_,hb,_,_,_=>by simp[Ty.aM]at hb
 |.ptr _,_,_,_,hb,_,_,_=>by simp[Ty.aM]at hb
 |.op _,_,_,_,hb,_,_,_=>by simp[Ty.aM]at hb
 |.fn _ _,_,_,_,hb,_,_,_=>by simp[Ty.aM]at hb
 |.bQ _ _ _,_,_,_,hb,_,_,_=>by simp[Ty.aM]at hb
 |.ext _ _ _ _,_,_,_,hb,_,_,_=>by simp[Ty.aM]at hb
theorem UG:(σ:Ty)->∀{x x':σ.den} {q:List qu} {y},σ.aM=true->qU σ x q=some y->∃y',qU σ x' q=some ⟨y.1,y'⟩
 |.int _,x,x',q,y,_,h=>by
  match q with
  |[]=>cases h;exact⟨x',rfl⟩
  |_::_=>cases h
 |.bool,x,x',q,y,_,h=>by
  match q with
  |[]=>cases h;exact⟨x',rfl⟩
  |_::_=>cases h
 |.pair a b,x,x',q,y,hb,h=>by
  simp only[Ty.aM,Bool.and_eq_true]at hb
  match q with
  |[]=>cases h;exact⟨x',rfl⟩
  |.L::q=>exact UG a (x':=x'.1) (q:=q) hb.1 h
  |.R::q=>exact UG b (x':=x'.2) (q:=q) hb.2 h
  |.I _::_=>cases h
 |.str t,x,x',q,y,hb,h=>by
  match q with
  |[]=>cases h;exact⟨x',rfl⟩
  |s::q=>exact UG t (x':=x') (q:=s::q) hb h
 |.list _ _ _,_,_,_,_,hb,_=>by simp[Ty.aM]at hb
 |.arr _ _,_,_,_,_,hb,_=>by simp[Ty.aM]at hb
 |.ptr _,_,_,_,_,hb,_=>by simp[Ty.aM]at hb
 |.op _,_,_,_,_,hb,_=>by simp[Ty.aM]at hb
 |.fn _ _,_,_,_,_,hb,_=>by simp[Ty.aM]at hb
 |.bQ _ _ _,_,_,_,_,hb,_=>by simp[Ty.aM]at hb
 |.ext _ _ _ _,_,_,_,_,hb,_=>by simp[Ty.aM]at hb
theorem MM:(τ:Ty)->∀{x x':τ.den} {p q:List qu} {σ:Ty} {v:σ.den} {y},σ.aM=true->qU τ x q=some y->j6 τ x p σ v=some x'->∃y',qU τ x' q=some ⟨y.1,y'⟩
 |.pair a b,x,x',p,q,σ,v,y,hb,hg,hs=>by
  match p,q with
  |[],q=>
   obtain⟨e,_⟩:=qg (by simpa[j6]using hs)
   subst e
   exact UG _ hb hg
  |_::_,[]=>cases hg;exact⟨x',rfl⟩
  |.L::p,.L::q=>
   obtain⟨z,hz,rfl⟩:=Option.map_eq_some_iff.1 hs
   exact MM a (p:=p) (q:=q) hb hg hz
  |.R::p,.R::q=>
   obtain⟨z,hz,rfl⟩:=Option.map_eq_some_iff.1 hs
   exact MM b (p:=p) (q:=q) hb hg hz
  |.L::p,.R::q=>
   obtain⟨z,hz,rfl⟩:=Option.map_eq_some_iff.1 hs
   exact⟨y.2,hg⟩
  |.R::p,.L::q=>
   obtain⟨z,hz,rfl⟩:=Option.map_eq_some_iff.1 hs
   exact⟨y.2,hg⟩
  |.I _::_,_::_=>cases hs
  |.L::_,.I _::_=>cases hg
  |.R::_,.I _::_=>cases hg
 |.str t,x,x',p,q,σ,v,y,hb,hg,hs=>by
  match p,q with
  |[],q=>
   obtain⟨e,_⟩:=qg (by simpa[j6]using hs)
   subst e
   exact UG _ hb hg
  |_::_,[]=>cases hg;exact⟨x',rfl⟩
  |s::p,s'::q=>exact MM t (p:=s::p) (q:=s'::q) hb hg hs
 |.list true tid e,x,x',p,q,σ,v,y,hb,hg,hs=>by
  match p,q with
  |[],q=>
   obtain⟨e,_⟩:=qg (by simpa[j6]using hs)
   subst e
   simp[Ty.aM]at hb
  |_::_,[]=>cases hg;exact⟨x',rfl⟩
  |.I i::p,.I j::q=>
   simp only[j6]at hs
   simp only[qU]at hg ⊢
   split at hs
   case isFalse=>cases hs
   split at hg
   case isFalse=>cases hg
   rename_i hj
   rw[if_pos hj]
   obtain⟨z,hz,hs⟩:=Option.bind_eq_some_iff.1 hs
   obtain⟨z',mv,rfl⟩:=Option.map_eq_some_iff.1 hs
   obtain⟨u,hu,hg⟩:=Option.bind_eq_some_iff.1 hg
   by_cases hij:i.toNat=j.toNat
   ·rw[hij]at hz ⊢
    rw[hz]at hu
    cases hu
    obtain⟨y',hy'⟩:=MM e (p:=p) (q:=q) hb hg mv
    have hlt:=(List.getElem?_eq_some_iff.1 hz).1
    rw[List.getElem?_set_self hlt]
    exact⟨y',hy'⟩
   ·rw[List.getElem?_set_ne hij,hu]
    exact⟨y.2,hg⟩
  |.L::_,_::_=>cases hs
  |.R::_,_::_=>cases hs
  |.I _::_,.L::_=>cases hg
  |.I _::_,.R::_=>cases hg
 |.arr m e,x,x',p,q,σ,v,y,hb,hg,hs=>by
  match p,q with
  |[],q=>
   obtain⟨e,_⟩:=qg (by simpa[j6]using hs)
   subst e
   simp[Ty.aM]at hb
  |_::_,[]=>cases hg;exact⟨x',rfl⟩
  |.I i::p,.I j::q=>
   simp only[j6]at hs
   simp only[qU]at hg ⊢
   split at hs
   case isFalse=>cases hs
   split at hg
   case isFalse=>cases hg
   rename_i hj
   rw[if_pos hj]
   obtain⟨z,hz,hs⟩:=Option.bind_eq_some_iff.1 hs
   obtain⟨z',mv,rfl⟩:=Option.map_eq_some_iff.1 hs
   obtain⟨u,hu,hg⟩:=Option.bind_eq_some_iff.1 hg
   by_cases hij:i.toNat=j.toNat
   ·rw[hij]at hz ⊢
    rw[hz]at hu
    cases hu
    obtain⟨y',hy'⟩:=MM e (p:=p) (q:=q) hb hg mv
    have hlt:=(List.getElem?_eq_some_iff.1 hz).1
    rw[List.getElem?_set_self hlt]
    exact⟨y',hy'⟩
   ·rw[List.getElem?_set_ne hij,hu]
    exact⟨y.2,hg⟩
  |.L::_,_::_=>cases hs
  |.R::_,_::_=>cases hs
  |.I _::_,.L::_=>cases hg
  |.I _::_,.R::_=>cases hg
 |.op t,x,x',p,q,σ,v,y,hb,hg,hs=>by
  match p,q with
  |[],q=>
   obtain⟨e,_⟩:=qg (by simpa[j6]using hs)
   subst e
   simp[Ty.aM]at hb
  |_::_,[]=>cases hg;exact⟨x',rfl⟩
  |.I i::p,.I j::q=>
   simp only[j6]at hs
   simp only[qU]at hg ⊢
   obtain⟨z,hz,hs⟩:=Option.bind_eq_some_iff.1 hs
   obtain⟨z',mv,rfl⟩:=Option.map_eq_some_iff.1 hs
   obtain⟨u,hu,hg⟩:=Option.bind_eq_some_iff.1 hg
   rw[hz]at hu
   cases hu
   exact MM t (p:=p) (q:=q) hb hg mv
  |.L::_,_::_=>cases hs
  |.R::_,_::_=>cases hs
  |.I _::_,.L::_=>cases hg
  |.I _::_,.R::_=>cases hg
 |.int _,x,x',p,q,σ,v,y,hb,hg,hs=>by
  match q with
  |[]=>cases hg;exact⟨x',rfl⟩
  |_::_=>cases hg
 |.bool,x,x',p,q,σ,v,y,hb,hg,hs=>by
  match q with
  |[]=>cases hg;exact⟨x',rfl⟩
  |_::_=>cases hg
 |.list false _ _,x,x',p,q,σ,v,y,hb,hg,hs=>by
  match q with
  |[]=>cases hg;exact⟨x',rfl⟩
  |_::_=>cases hg
 |.ptr _,x,x',p,q,σ,v,y,hb,hg,hs=>by
  match q with
  |[]=>cases hg;exact⟨x',rfl⟩
  |_::_=>cases hg
 |.fn _ _,x,x',p,q,σ,v,y,hb,hg,hs=>by
  match q with
  |[]=>cases hg;exact⟨x',rfl⟩
  |_::_=>cases hg
 |.bQ _ _ _,x,x',p,q,σ,v,y,hb,hg,hs=>by
  match q with
  |[]=>cases hg;exact⟨x',rfl⟩
  |_::_=>cases hg
 |.ext _ _ _ _,x,x',p,q,σ,v,y,hb,hg,hs=>by
  match q with
  |[]=>cases hg;exact⟨x',rfl⟩
  |_::_=>cases hg
theorem ia.fp{o:Obj}{φ:qH}{p:List qu}{b:Nat}(hok:qR P w H o φ)(h:ia P w H o φ p b):b∈φ.fp:=by
 unfold ia at h
 cases hr:o.row&&p.isEmpty with
 |true=>rw[hr]at h;exact h
 |false=>
  rw[hr]at h
  obtain⟨⟨σ,y⟩,bb,off,blk,t,f,q1,q2,q3,q4,q5⟩:=h
  obtain⟨b',o',aX,t',pre',c,post',f1,f',f2,e1,e2,e3,e4,e5,e6,hl',_⟩:=hok.h_ (y:=y) q1 ⟨w,_,_,q2⟩ hr
  obtain⟨rfl,rfl⟩:=jV.fN q2 (hl' w (λ_ _=>rfl))
  rw[e1]at q3
  cases q3
  have kN:=qZ e2 (qm.length σ e6)
  rw[e3]at kN
  simp only[kN]at q4
  rw[e4,qm.cg σ e6 q4]
  simp[q5]
theorem qh.storeAt(hs:qh P C s a w H Φ){id:Nat}{o:Obj}(ho:s.obj id=some o){p:List qu}(hp:(o.row&&p.isEmpty)=false){σ:Ty}{y:σ.den}(hg:qU o.τ o.x p=some ⟨σ,y⟩){b off:Nat}(hl:jV w o (Φ id) p b off)
  {T:TypeId} (a_:qT P T σ) {y':σ.den} {c':List Value} {f':List Nat} (hr:qm P σ w H y' c' f') (aO:f'.Nodup)
  (hf':∀k∈f',H k=none/\(C.M0 k\/C.w0.heap.size<=k)/\k<w.heap.size/\(∀j o',j≠id->s.obj j=some o'->k∉(Φ j).fp)/\(k∈(Φ id).fp->ia P w H o (Φ id) p k))
  {x':o.τ.den} (hx:j6 o.τ o.x p σ y'=some x'):
  ∃w' φ,(Instr.storeAt T (.pointer (some ⟨b,off,none⟩)) (j7 σ c')).run P w = .ok () w'/\qh P C ((s.af (AV.cE id o.row o.τ p)).setObj id (some ⟨o.row,o.τ,x'⟩)) a w' H (rX Φ id φ)/\
   (∀k∈φ.fp,k∈f'\/(k∈(Φ id).fp/\¬ia P w H o (Φ id) p k))/\(∀k,ia P w H o (Φ id) p k->w'.heap[k]? = w.heap[k]?)/\
   (∀k,k∉(Φ id).fp->w'.heap[k]? = w.heap[k]?)/\(o.row=false->p.any qu.dW=false->∀q,q.any qu.dW=false->kX o.τ p q=true->qU o.τ x' q=qU o.τ o.x q->∀k,ia P w H o (Φ id) q k->ia P w' H ⟨o.row,o.τ,x'⟩ φ q k/\w'.heap[k]? = w.heap[k]?):=by
 have hok:=(hs.os id o ho).1
 have bF:=(hs.os id o ho).2
 obtain⟨b',o',aX,t',pre',c,post',f1,f,f2,e1,e2,e3,e4,e5,e6,hl',e7⟩:=hok.h_ (y:=y) hg ⟨w,_,_,hl⟩ hp
 obtain⟨rfl,rfl⟩:=jV.fN hl (hl' w (λ_ _=>rfl))
 have aq:=hok.2.1
 rw[e4]at aq
 have hin:∀k∈f1,k∈(Φ id).fp:=λk hk=>by rw[e4];simp[hk]
 have kP:∀k∈f2,k∈(Φ id).fp:=λk hk=>by rw[e4];simp[hk]
 have hold:∀k∈f',k∈(Φ id).fp->k∈f:=by
  intro k hk abb
  have hin:=(hf' k hk).2.2.2.2 abb
  unfold ia at hin
  rw[hp]at hin
  obtain⟨y9,bb,aaj,ab9,t9,f9,q1,q2,q3,q4,q5⟩:=hin
  rw[hg]at q1
  cases q1
  obtain⟨rfl,rfl⟩:=jV.fN hl q2
  rw[e1]at q3
  cases q3
  have kN:=qZ e2 (qm.length σ e6)
  rw[e3]at kN
  simp only[kN]at q4
  rw[qm.cg σ e6 q4]
  exact q5
 have VL:∀k∈f',k∉f1:=by
  intro k hk wT
  have:=hold k hk (hin k wT)
  simp only[List.nodup_append,List.mem_append]at aq
  exact aq.1.2.2 k wT k this rfl
 have aa2:∀k∈f',k∉f2:=by
  intro k hk hk2
  have:=hold k hk (kP k hk2)
  simp only[List.nodup_append,List.mem_append]at aq
  exact aq.2.2 k (.inr this) k hk2 rfl
 have IQ:b∈(Φ id).fp:=hin b e5
 have hrun:=qgu a_ e1 e2 (qm.length σ e6) (qm.length σ hr) (qm.one σ hr)
 rw[e3]at hrun
 have Gw:(w.setRow b (pre'++c'++post').toArray).heap[b]? = some (.cells (pre'++c'++post').toArray t' (0,0)):=setRow_heap w b aX _ t' _ e1
 have wN:∀k,k≠b->(w.setRow b (pre'++c'++post').toArray).heap[k]? = w.heap[k]?:=λk hk=>setRow_other w b k _ hk
 have hsz:(w.setRow b (pre'++c'++post').toArray).heap.size=w.heap.size:=by simp[World.setRow]
 have KR:jO (λk=>k=b) w (w.setRow b (pre'++c'++post').toArray):=⟨rfl,rfl,rfl,by omega,λk _ hM=>wN k hM⟩
 have dJ:(f1++f'++f2).Nodup:=by
  simp only[List.nodup_append,List.mem_append]at aq ⊢
  refine⟨⟨aq.1.1,aO,?_⟩,aq.2.1,?_⟩
  ·rintro k hk _ hk' rfl;exact VL k hk' hk
  ·rintro k (hk|hk) _ hk' rfl
   ·exact aq.2.2 k (.inl hk) k hk' rfl
   ·exact aa2 k hk hk'
 have hlc:c'.length=c.length:=(qm.length σ hr).trans (qm.length σ e6).symm
 have CF:uv P w (w.setRow b (pre'++c'++post').toArray) H b off ⟨σ,y⟩:=by
  refine⟨c,f,e6,λi hi=>?_,λk _ hk _=>wN k hk,λi hi=>?_⟩
  ·rw[qw e1,<-Array.getElem?_toList,e2,<-e3,List.append_assoc,List.getElem?_append_right (by omega),List.getElem?_append_left (by omega)]
   congr 1
   omega
  ·have Cw:=qm.length σ e6
   rw[qw e1,qw Gw,<-Array.getElem?_toList,<-Array.getElem?_toList,e2,List.append_assoc,List.append_assoc]
   simp only at hi
   by_cases h1:i<pre'.length
   ·rw[List.getElem?_append_left h1,List.getElem?_append_left h1]
   ·rw[List.getElem?_append_right (by omega),List.getElem?_append_right (by omega),List.getElem?_append_right (by omega),List.getElem?_append_right (by omega),hlc]
 have bh:=e7 _ c' f' σ y' x' (qm.mono σ (FH.le_refl H) (λk hk=>wN k (λe=>VL k hk (by rw[e];exact e5))) hr) hx Gw (λk _ hk=>wN k hk) dJ
 have bl:∀k∈f1++f'++f2,H k=none/\(C.M0 k\/C.w0.heap.size<=k)/\k<w.heap.size/\∀j o',j≠id->s.obj j=some o'->k∉(Φ j).fp:=by
  intro k hk
  have old:k∈(Φ id).fp->H k=none/\(C.M0 k\/C.w0.heap.size<=k)/\k<w.heap.size/\∀j o',j≠id->s.obj j=some o'->k∉(Φ j).fp:=λhk=>
   ⟨(bF k hk).1,(bF k hk).2.1,(bF k hk).2.2,λj o' hj cu=>hs.aN id j o o' (λe=>hj e.symm) ho cu k hk⟩
  simp only[List.mem_append]at hk
  rcases hk with(hk|hk)|hk
  ·exact old (hin k hk)
  ·exact⟨(hf' k hk).1,(hf' k hk).2.1,(hf' k hk).2.2.1,(hf' k hk).2.2.2.1⟩
  ·exact old (kP k hk)
 have Cz:∀k,ia P w H o (Φ id) p k->k∈f:=by
  intro k hin
  unfold ia at hin
  rw[hp]at hin
  obtain⟨y9,bb,aaj,ab9,t9,f9,q1,q2,q3,q4,q5⟩:=hin
  rw[hg]at q1
  cases q1
  obtain⟨rfl,rfl⟩:=jV.fN hl q2
  rw[e1]at q3
  cases q3
  have kN:=qZ e2 (qm.length σ e6)
  rw[e3]at kN
  simp only[kN]at q4
  rw[qm.cg σ e6 q4]
  exact q5
 refine⟨_,⟨(Φ id).b,(Φ id).ax,f1++f'++f2⟩,?_,hs.lu (F:=AV.cE id o.row o.τ p) ho x' _ rfl rfl (FH.le_refl H) (hs.hok.mod KR (λk hk=>by rw[hk];exact(bF b IQ).1)) hs.hnew (hs.mod.bA KR (λk hk=>by rw[hk];exact(bF b IQ).2.1)) (by omega) ?_ bh ?_ (λq hf=>?_) (λ_ _ _ _ _=>rfl) ?_,λk hk=>?_,λk hk=>wN k (λe=>?_),λk hk=>wN k (λe=>hk (e▸IQ)),λhrow hps q hq hvo hgq k hk=>?_⟩
 ·simp[Instr.storeAt,Instr.sureAddr,hrun]
 ·intro j o' hj cu k hk
  exact⟨wN k (λe=>hs.aN id j o o' (λe=>hj e.symm) ho cu b IQ (e▸hk)),((hs.os j o' cu).2 k hk).1⟩
 ·intro k hk
  have:=bl k hk
  exact⟨this.1,this.2.1,by rw[hsz];exact this.2.2.1,this.2.2.2⟩
 ·simp only[AV.cE,Nat.beq_refl,Bool.true_and]at hf
  cases hq:q.any qu.dW with
  |false=>exact .inl rfl
  |true=>
   rw[hq,Bool.true_and,Bool.not_eq_false',Bool.or_eq_true]at hf
   right
   intro y2 hy2
   rcases hf with hf|hf
   case inr=>exact⟨λb2 iv bn=>(hok.stay ⟨rfl,rfl⟩ hf hg hy2 hl bn CF x').1,Ks _ hf hy2 hx⟩
   unfold DG at hf
   rw[jH _ hg]at hf
   have Lj:σ.aM=true:=hf
   refine⟨λb2 iv bn=>?_,MM _ Lj hy2 hx⟩
   have hk:∀a ao v,Iu v=true->w.cell? ⟨a,ao,none⟩=some v->(w.setRow b (pre'++c'++post').toArray).cell? ⟨a,ao,none⟩=some v:=by
    intro a ao v hv ha
    by_cases hab:a=b
    ·subst hab
     rw[qw e1,<-Array.getElem?_toList,e2]at ha
     rw[qw Gw,<-Array.getElem?_toList]
     have hlc:c'.length=c.length:=(qm.length σ hr).trans (qm.length σ e6).symm
     simp only
     by_cases h1:ao<pre'.length
     ·rw[List.append_assoc,List.getElem?_append_left h1]at ha ⊢
      exact ha
     ·rw[List.append_assoc,List.getElem?_append_right (by omega)]at ha ⊢
      by_cases h2:ao-pre'.length<c.length
      ·rw[List.getElem?_append_left h2]at ha
       exact absurd (Zv σ Lj e6 _ (List.mem_of_getElem? ha)) (by rw[hv];simp)
      ·rw[List.getElem?_append_right (by omega)]at ha
       rw[List.getElem?_append_right (by omega),hlc]
       exact ha
    ·rw[World.cell?_of_block (a:=⟨a,ao,none⟩) (wN a hab)]
     exact ha
   have:=jV.keep hk bn
   obtain⟨row,τ,x0⟩:=o
   exact this
 ·intro q hf
  simp only[AV.cE,Nat.beq_refl,Bool.true_and]at hf
  cases Cg:o.row&&q.isEmpty with
  |true=>exact .inl rfl
  |false=>
  right
  intro z b2 iv Jq t2 _ hg2 bn gp
  rw[Cg,Bool.not_false,Bool.true_and,Bool.not_eq_false']at hf
  obtain⟨k1,k2⟩:=hok.stay (eE:=⟨(Φ id).b,(Φ id).ax,f1++f'++f2⟩) ⟨rfl,rfl⟩ (HA _ hf) hg hg2 hl bn CF x'
  obtain⟨z',mv⟩:=Ks _ (HA _ hf) hg2 hx
  obtain⟨mN,t3,Lc⟩:∃mN t3,(w.setRow b (pre'++c'++post').toArray).heap[b2]? = some (.cells mN t3 (0,0)):=by
   by_cases cO:b2=b
   ·rw[cO];exact⟨_,_,Gw⟩
   ·exact⟨_,_,(wN _ cO).trans gp⟩
  exact⟨⟨z.1,z'⟩,b2,iv,mN,t3,rfl,mv,k1,Lc,qiF (k2 (.inl hf)) gp Lc⟩
 ·simp only[List.nodup_append,List.mem_append]at aq
  rcases List.mem_append.1 hk with hk|hk
  ·rcases List.mem_append.1 hk with hk|hk
   ·exact .inr ⟨hin k hk,λhh=>aq.1.2.2 k hk k (Cz k hh) rfl⟩
   ·exact .inl hk
  ·exact .inr ⟨kP k hk,λhh=>aq.2.2 k (.inr (Cz k hh)) k hk rfl⟩
 ·simp only[List.nodup_append,List.mem_append]at aq
  subst e
  exact aq.1.2.2 k e5 k (Cz k hk) rfl
 ·have Cg:(o.row&&q.isEmpty)=false:=by rw[hrow];rfl
  have hk':=hk
  unfold ia at hk
  rw[Cg]at hk
  obtain⟨z,b2,iv,Jq,t2,fq,hg2,bn,gp,hrz,VW⟩:=hk
  have cO:b2=(Φ id).b:=by
   have bn:=bn
   unfold jV at bn
   simp only[hrow]at bn
   exact jT.root _ hq bn
  have hb:b=(Φ id).b:=by
   have hl:=hl
   unfold jV at hl
   simp only[hrow]at hl
   exact jT.root _ hps hl
  obtain⟨σ2,z⟩:=z
  obtain⟨b'',o'',ach,t'',bD,c2,bS,g1,g,g2,m1,m2,m3,m4,m5,m6,ml,_⟩:=hok.h_ (y:=z) hg2 ⟨w,_,_,bn⟩ Cg
  obtain⟨rfl,rfl⟩:=jV.fN bn (ml w (λ_ _=>rfl))
  rw[gp]at m1
  cases m1
  have kN:=qZ m2 (qm.length σ2 m6)
  rw[m3]at kN
  simp only[kN]at hrz
  have hfq:fq=g:=qm.cg σ2 hrz m6
  have NJ:=hok.2.1
  rw[m4]at NJ
  simp only[List.nodup_append,List.mem_append]at NJ
  have hng:∀u∈g,u≠b:=λu hu e=>NJ.1.2.2 b2 m5 u hu (by rw[e,hb,<-cO])
  have hkb:k≠b:=hng k (by rw[<-hfq];exact VW)
  refine⟨?_,wN k hkb⟩
  obtain⟨k1,k2⟩:=hok.stay (eE:=⟨(Φ id).b,(Φ id).ax,f1++f'++f2⟩) ⟨rfl,rfl⟩ (HA _ hvo) hg hg2 hl bn CF x'
  obtain⟨mN,t3,Lc⟩:∃mN t3,(w.setRow b (pre'++c'++post').toArray).heap[b2]? = some (.cells mN t3 (0,0)):=by
   rw[cO,<-hb];exact⟨_,_,Gw⟩
  have hsame:ct mN iv σ2.size=ct Jq iv σ2.size:=qiF (k2 (.inl hvo)) gp Lc
  unfold ia
  have aaW:((⟨o.row,o.τ,x'⟩:Obj).row&&q.isEmpty)=false:=Cg
  rw[aaW]
  refine⟨⟨σ2,z⟩,b2,iv,mN,t3,g,hgq.trans hg2,k1,Lc,?_,by rw[<-hfq];exact VW⟩
  simp only
  rw[hsame,kN]
  exact qm.mono σ2 (FH.le_refl H) (λu hu=>wN u (hng u hu)) m6
theorem UC{R:Type}:∀{p q:List qu} {k:Option R} {r:R},Mh p q k=some r->p=q/\k=some r
 |[],[],_,_,h=>⟨rfl,h⟩
 |.L::p,.L::q,_,_,h=>by obtain⟨rfl,h2⟩:=UC (p:=p) (q:=q) h;exact⟨rfl,h2⟩
 |.R::p,.R::q,_,_,h=>by obtain⟨rfl,h2⟩:=UC (p:=p) (q:=q) h;exact⟨rfl,h2⟩
 |.I i::p,.I j::q,_,_,h=>by
  simp only[Mh,eqK]at h
  split at h
  ·rename_i e;subst e;obtain⟨rfl,h2⟩:=UC h;exact⟨rfl,h2⟩
  ·cases h
 |[],_::_,_,_,h=>by cases h
 |.L::_,[],_,_,h=>by cases h
 |.R::_,[],_,_,h=>by cases h
 |.I _::_,[],_,_,h=>by cases h
 |.L::_,.R::_,_,_,h=>by cases h
 |.L::_,.I _::_,_,_,h=>by cases h
 |.R::_,.L::_,_,_,h=>by cases h
 |.R::_,.I _::_,_,_,h=>by cases h
 |.I _::_,.L::_,_,_,h=>by cases h
 |.I _::_,.R::_,_,_,h=>by cases h
theorem RG{o:Oper}{w':World}{s':St}(hrun:(execOp a.eval o).run P w = .ok .skip w')(h:dS P C s' (a.put o.dst undef) w'):ew P C o a w s':=by
 unfold ew
 rw[hrun]
 exact h
theorem qh.kR{w':World}(hs:qh P C s a w H Φ){b:Nat}(hb:ei C w H Φ s.obj b)(hm:jO (λk=>k=b) w w'):qh P C (s.af AV.aH) a w' H Φ:=by
 have hw:∀j o,s.obj j=some o->∀c∈(Φ j).fp,w'.heap[c]? = w.heap[c]?:=λj o ho c hc=>hm.block c ((hs.os j o ho).2 c hc).2.2 (λe=>hb.obj j o ho (by rw[<-e];exact hc))
 refine⟨hs.defers,hs.size,hs.le,hs.hok.mod hm (λk hk=>by rw[hk];exact hb.fz),hs.hnew,hs.mod.bA hm (λk hk=>by rw[hk];exact hb.may),?_,?_,hs.aN,hs.pins⟩
 ·intro t av ht
  rw[St.aS]at ht
  obtain⟨jm,h0,rfl⟩:=Option.map_eq_some_iff.1 ht
  refine qi.bK AV.aH (FH.le_refl _) ?_ ?_ ?_ jm _ (hs.ts t jm h0)
  ·intro j p v hf hr
   exact qi.dU (λo ho=>ho) rfl (λo ho=>⟨(hs.os j o ho).1,hw j o ho⟩) hr
  ·intro j p v hf hr
   exact qi.cG (λo ho=>ho) rfl (λo ho=>⟨(hs.os j o ho).1,hw j o ho⟩) hr
  ·intro j p t e l v hf;cases hf
 ·intro j o ho
  exact⟨(hs.os j o ho).1.frame (FH.le_refl _) (hw j o ho),λc hc=>⟨((hs.os j o ho).2 c hc).1,((hs.os j o ho).2 c hc).2.1,Nat.lt_of_lt_of_le ((hs.os j o ho).2 c hc).2.2 hm.size⟩⟩
theorem qm7(ae:qx P aa)(hC:qD C aa){T:TypeId}{x z:Operand}(hs:qh P C s a w H Φ)(hd:qK aa.nt dst=true){av bv:AV}(gq:qi P C w H Φ s.obj av (a.eval x))(gp:qi P C w H Φ s.obj bv (a.eval z))
  (h:(reK s (lk aa.ty T) av bv λs=>k (s.ah dst .dead))=some r):∃s',k s'=some r/\ew P C ⟨dst,.store T x z,ty,pos,after,guard⟩ a w s':=by
 unfold reK at h
 cases h
theorem Bp(ae:qx P aa)(hC:qD C aa){T:TypeId}{x z:Operand}(hs:qh P C s a w H Φ)(hd:qK aa.nt dst=true){av:AV}(gq:qi P C w H Φ s.obj av (a.eval x))(hvz:a.eval z = .slice none 0 0)
  (h:(qm0 s (lk aa.ty T) av λs=>k (s.ah dst .dead))=some r):∃s',k s'=some r/\ew P C ⟨dst,.store T x z,ty,pos,after,guard⟩ a w s':=by
 unfold qm0 at h
 cases h
theorem qh.Je(hs:qh P C s a w H Φ){fp:List Nat}(bl:∀b∈fp,ei C w H Φ s.obj b):qh P C (s.af AV.aH) a w (w_ w H fp) Φ:=by
 have hle:=Rg (w:=w) (λb hb=>(bl b hb).fz)
 refine⟨hs.defers,hs.size,FH.le_trans hs.le hle,qn5 hs.hok,?_,hs.mod,?_,?_,hs.aN,hs.pins⟩
 ·intro b c hb
  rcases qld hb with hb|hb
  ·exact hs.hnew b c hb
  ·exact .inr (bl b hb).may
 ·intro t av ht
  rw[St.aS]at ht
  obtain⟨jm,h0,rfl⟩:=Option.map_eq_some_iff.1 ht
  refine qi.bK AV.aH hle ?_ ?_ ?_ jm _ (hs.ts t jm h0)
  ·intro j p v hf hr
   exact qi.dU (λo ho=>ho) rfl (λo ho=>⟨(hs.os j o ho).1,λ_ _=>rfl⟩) hr
  ·intro j p v hf hr
   exact qi.cG (λo ho=>ho) rfl (λo ho=>⟨(hs.os j o ho).1,λ_ _=>rfl⟩) hr
  ·intro j p t e l v hf;cases hf
 ·intro j o ho
  refine⟨(hs.os j o ho).1.frame hle (λ_ _=>rfl),λb hb=>⟨?_,((hs.os j o ho).2 b hb).2⟩⟩
  unfold w_
  rw[if_neg (λhh=>(bl b hh).obj j o ho hb)]
  exact((hs.os j o ho).2 b hb).1
theorem HS(ae:qx P aa)(hC:qD C aa){T:TypeId}{x z:Operand}{t0:Nat}(hs:qh P C s a w H Φ)(hd:qK aa.nt dst=true){av:AV}(gq:qi P C w H Φ s.obj av (a.eval x))(hvz:a.eval z = .slice none 0 0)
  (h:(qf4 s (lk aa.ty T) av t0 λs=>k (s.ah dst .dead))=some r):∃s',k s'=some r/\ew P C ⟨dst,.store T x z,ty,pos,after,guard⟩ a w s':=by
 unfold qf4 at h
 split at h
 case h_2=>cases h
 rename_i id p id' p' KY
 obtain⟨o,y,b,off,h1,h2,h3,h4,hv⟩:=gq
 rw[h1]at h
 simp only at h
 cases aF:Nat.beq id id' with
 |false=>rw[aF]at h;cases h
 |true=>
 rw[aF,cond_true]at h
 obtain rfl:=Nat.eq_of_beq_eq_true aF
 replace h:=UC h
 obtain⟨rfl,h⟩:=h
 rw[jJ,h3]at h
 obtain⟨σ,y⟩:=y
 simp only[Option.bind_some]at h
 split at h
 case h_2=>cases h
 rename_i tid e l
 cases hT:e.ay&&(e.aD&&decide (lk aa.ty T=some (.list false tid e)))with
 |false=>rw[hT]at h;cases h
 |true=>
 rw[hT,cond_true,sO]at h
 simp only[Bool.and_eq_true,decide_eq_true_eq]at hT
 obtain⟨oO,Gx,hT⟩:=hT
 replace h:=Option.bind_eq_some_iff.1 h
 obtain⟨x',hx,h⟩:=h
 have a_:qT P T (.list true tid e):=qT.gw (τ:=.list true tid e) (by simpa[Ty.fz,Ty.bf e oO]using(ae.ty T _ hT).1)
 obtain⟨w',φ,hrun,bE,k1,k2,_⟩:=hs.storeAt h1 h2 h3 h4 a_ (y':=([]:List e.den)) (c':=[.slice none 0 0]) (f':=[]) ⟨.slice none 0 0,[],[],rfl,rfl,World.ownsRow_nil w 0 tid e.size,rfl,rfl⟩ List.nodup_nil (by simp) hx
 obtain⟨cs,fp,zq,an,hsub,_⟩:=wA (hs.ts t0 _ KY) h1 (hs.os id o h1).1 h3
 replace an:qm P (.list true tid e) w H l cs fp:=an
 replace zq:a.tmps.getD t0 undef=j7 (.list true tid e) cs:=zq
 obtain⟨ax,xs,aC,rfl,rfl,how,hch⟩:=an
 have nF:=qd.iE (λ_ _ _ hh=>qm.dg e oO hh) hch
 subst nF
 have Wc:∀g,ax.ownBlock=some g->ia P w H o (Φ id) p g:=by
  intro g hg
  unfold ia
  rw[h2]
  obtain⟨o',y',q1,q2,q3⟩:=hs.ts t0 _ KY
  rw[h1]at q1
  cases q1
  rw[h3]at q2
  cases q2
  rw[h2]at q3
  obtain⟨b2,iv,blk,t,q4,q5,q6⟩:=q3
  obtain⟨rfl,rfl⟩:=jV.fN h4 q4
  obtain⟨b',o',aX,t',pre',c,post',f1,f,f2,e1,e2,e3,e4,e5,e6,hl',_⟩:=(hs.os id o h1).1.h_ h3 ⟨w,_,_,h4⟩ h2
  obtain⟨rfl,rfl⟩:=jV.fN h4 (hl' w (λ_ _=>rfl))
  have kN:=qZ e2 (qm.length _ e6)
  rw[e3]at kN
  refine⟨_,b,off,_,t',f,h3,h4,e1,by simp only[kN];exact e6,?_⟩
  rw[e1]at q5
  cases q5
  have hc:c=[ax]:=by
   have hlc:=qm.length _ e6
   match c,hlc with
   |[u],_=>
    have e9:j7 (.list true tid e) [u]=j7 (.list true tid e) [ax]:=by
     rw[<-zq,q6]
     exact(congrArg (j7 (.list true tid e)) kN).symm
    have:u=ax:=e9
    rw[this]
  subst hc
  rw[qm.cg _ e6 ⟨ax,xs,[],rfl,rfl,how,hch⟩,hg]
  simp
 have hfree:∀g∈ax.ownBlock.toList,ei C w' H (rX Φ id φ) ((s.af (AV.cE id o.row o.τ p)).setObj id (some ⟨o.row,o.τ,x'⟩)).obj g:=by
  intro g hg
  have uQ:ax.ownBlock=some g:=by simpa using hg
  have hi:=Wc g uQ
  have hin:g∈(Φ id).fp:=ia.fp (hs.os id o h1).1 hi
  obtain⟨p1,p2,p3⟩:=(hs.os id o h1).2 g hin
  refine⟨p1,λj o' hj dY=>?_,p2,by
   exact(((hs.os id o h1).1.dat g hin).block (k2 g hi)).lt⟩
  rw[St.ak]at hj
  split at hj
  ·rename_i e1
   subst e1
   rw[qt]at dY
   rcases k1 g dY with hb|⟨_,hb⟩
   ·cases hb
   ·exact hb hi
  ·rename_i e1
   rw[qW _ _ (λe=>e1 e.symm)]at dY
   exact hs.aN id j o o' e1 h1 hj g hin dY
 have i_:=bE.Je hfree
 have hval:qi P C w' (w_ w' H ax.ownBlock.toList) (rX Φ id φ) ((((s.af (AV.cE id o.row o.τ p)).setObj id (some ⟨o.row,o.τ,x'⟩))).af AV.aH).obj (.val (.list false tid e) l) (a.tmps.getD t0 undef):=by
  refine⟨by simp[Ty.ay,oO],[ax],zq,?_⟩
  rcases how.2 with⟨rfl,h0⟩|⟨g,cap,cur,rfl,_,hg,hcap,_,hsz,cC⟩
  ·exact⟨rfl,none,0,by rw[h0],by rw[h0];exact Nat.le_refl _,.inl (List.length_eq_zero_iff.1 h0)⟩
  ·refine⟨rfl,some ⟨g,0,none⟩,cap,rfl,hcap,.inr ⟨g,0,cur,rfl,?_,?_⟩⟩
   ·refine qnw g (by simp[Value.ownBlock]) (.cells cur) ⟨tid,(0,0),?_⟩
    rw[k2 g (Wc g rfl)]
    exact hg
   ·rw[Rz,cC]
    exact qd.dB (Q:=λ_=>False) (λ_ _ _ hf hh=>qm.mono e (Rg λb hb=>(hfree b hb).fz) (λk hk=>(hf k hk).elim) hh) (by simp) hch
 have hs4:=i_.AA (t:=t0) hval
 have mB:(Instr.storeAt T (.pointer (some ⟨b,off,none⟩)) (.slice none 0 0)).run P w = .ok () w':=hrun
 refine⟨_,h,RG (w':=w') ?_ ⟨_,_,hs4.ah (by rw[hC.nt];exact hd) trivial⟩⟩
 simp[execOp,hv,hvz,mB]
theorem qkR(ae:qx P aa)(hC:qD C aa){T:TypeId}{x z:Operand}{t0:Nat}(hs:qh P C s a w H Φ)(hd:qK aa.nt dst=true){av bv:AV}(gq:qi P C w H Φ s.obj av (a.eval x))(gp:qi P C w H Φ s.obj bv (a.eval z))
  (h:(qf5 s (lk aa.ty T) av bv t0 λs=>k (s.ah dst .dead))=some r):∃s',k s'=some r/\ew P C ⟨dst,.store T x z,ty,pos,after,guard⟩ a w s':=by
 unfold qf5 at h
 split at h
 case h_2=>cases h
 rename_i id p dX id' q tid e l KY
 split at h
 case h_2=>cases h
 rename_i o o2 ho df
 cases hc: !o.row&&(o2.row&&(!Nat.beq id dX&&(Nat.beq id id'&&(!p.any qu.dW&&(!q.any qu.dW&&(kW p q&&(kX o.τ p q&&(e.aM&&decide (lk aa.ty T=some o2.τ.fz)))))))))with
 |false=>rw[hc]at h;cases h
 |true=>
 rw[hc,cond_true,sO]at h
 simp only[Bool.and_eq_true,Bool.not_eq_true',decide_eq_true_eq]at hc
 obtain⟨hrow,KI,hne,aF,hps,hqs,Wk,hvo,heb,hT⟩:=hc
 obtain rfl:=Nat.eq_of_beq_eq_true aF
 have hne:=Nat.ne_of_beq_eq_false hne
 replace h:=Option.bind_eq_some_iff.1 h
 obtain⟨x',hx,h⟩:=h
 obtain⟨o',y,b,off,h1,h2,h3,h4,hv⟩:=gq
 rw[ho]at h1
 cases h1
 have a_:=qT.gw (ae.ty T _ hT).1
 have kM:=jH _ h3
 have Iw:=Kq _ hx
 rw[kM]at Iw
 obtain⟨σ,y⟩:=y
 simp only[Option.some.injEq]at Iw
 obtain⟨Tm,τ2,x2⟩:=o2
 simp only at Iw KI hx hT a_
 subst Iw
 subst KI
 obtain⟨o2',y2,q1,q2,q3⟩:=gp
 rw[df]at q1
 cases q1
 simp only[List.isEmpty_nil,Bool.and_self]at q3
 obtain⟨sc,dJ,g3⟩:=(hs.os dX _ df).1
 obtain⟨_,Xd,IN,kA⟩:=g3
 have hs2:=hs.remove dX
 have bF:((s.kill dX).setObj dX none).obj id=some o:=by
  rw[St.ak,if_neg (λe=>hne e.symm)]
  exact ho
 obtain⟨w',φ,hrun,bE,k1,_,k3,k4⟩:=hs2.storeAt bF h2 h3 h4 a_ kA dJ (by
  intro k hk
  obtain⟨p1,p2,p3⟩:=(hs.os dX _ df).2 k hk
  refine⟨p1,p2,p3,λj o' hj cu=>?_,λhk2=>absurd hk2 (hs.aN dX id _ o (λe=>hne e.symm) df ho k hk)⟩
  rw[St.ak]at cu
  split at cu
  ·cases cu
  ·rename_i e
   exact hs.aN dX j _ o' e df cu k hk) hx
 obtain⟨o9,u1,u2,u3,fp,u4,u5,u6⟩:=hs.ts t0 _ KY
 rw[ho]at u1
 cases u1
 have hgq:=ZC o.τ Wk hx
 have hin:=k4 hrow hps q hqs hvo hgq
 have hsame:∀k∈fp,w'.heap[k]? = w.heap[k]?:=by
  intro k hk
  rcases(u6 k hk).2 with hh|hh
  ·exact k3 k (hh.obj id o ho)
  ·exact(hin k hh).2
 have tW:qi P C w' H (rX Φ id φ) (((((s.kill dX).setObj dX none).af (AV.cE id o.row o.τ p)).setObj id (some ⟨o.row,o.τ,x'⟩)).obj) (.d_ id q tid e l) (a.tmps.getD t0 undef):=by
  refine⟨⟨o.row,o.τ,x'⟩,by rw[St.ak,if_pos rfl],u2,u3,fp,u4,qm.mono (.list true tid e) (FH.le_refl H) hsame u5,λk hk=>?_⟩
  obtain⟨hlt,hh⟩:=u6 k hk
  have ym:k<w'.heap.size:=by
   have e0:=hsame k hk
   rw[Array.getElem?_eq_getElem hlt]at e0
   exact(Array.getElem?_eq_some_iff.1 e0).1
  refine⟨ym,hh.imp (λhh=>⟨hh.fz,λj o' hj hkj=>?_,hh.may,ym⟩) (λhh=>?_)⟩
  ·rw[St.ak]at hj
   by_cases hji:id=j
   ·subst hji
    rw[qt]at hkj
    rcases k1 k hkj with h5|h5
    ·exact hh.obj dX _ df h5
    ·exact hh.obj id o ho h5.1
   ·rw[if_neg hji]at hj
    rw[qW _ _ (λe=>hji e.symm)]at hkj
    have hj2:((s.kill dX).setObj dX none).obj j=some o':=hj
    rw[St.ak]at hj2
    split at hj2
    ·cases hj2
    ·exact hh.obj j o' hj2 hkj
  ·rw[qt]
   exact(hin k hh).1
 refine⟨_,h,RG (w':=w') ?_ ⟨H,_,(bE.AA tW).ah (by rw[hC.nt];exact hd) trivial⟩⟩
 have hz:a.eval z=j7 σ Xd:=q3.trans IN
 simp[execOp,hv,hz,hrun]
theorem qon(ae:qx P aa)(hC:qD C aa){T:TypeId}{x z:Operand}(hs:qh P C s a w H Φ)(hd:qK aa.nt dst=true)(h:qkD aa s dst T x z k=some r):
  ∃s',k s'=some r/\ew P C ⟨dst,.store T x z,ty,pos,after,guard⟩ a w s':=by
 unfold qkD at h
 split at h
 case h_2=>cases h
 rename_i av bv gq gp
 have hr:=ql hs qy gq
 have fh:=ql hs (ae.fz T) gp
 cases hre:AJ aa x with
 |true=>
  rw[hre,cond_true]at h
  cases hn0:Hl z with
  |true=>
   rw[hn0,cond_true]at h
   have KC:a.eval z = .slice none 0 0:=by
    unfold Hl at hn0
    split at hn0
    ·rfl
    ·cases hn0
   exact Bp ae hC hs hd hr KC h
  |false=>
   rw[hn0,cond_false]at h
   exact qm7 ae hC hs hd hr fh h
 |false=>
 rw[hre,cond_false]at h
 cases kO:Hl z&&qlV s av with
 |true=>
  rw[kO,cond_true]at h
  rw[Bool.and_eq_true]at kO
  have KC:a.eval z = .slice none 0 0:=by
   have:=kO.1
   unfold Hl at this
   split at this
   ·rfl
   ·cases this
  split at h
  ·exact HS ae hC hs hd hr KC h
  unfold qj0 at h
  split at h
  case h_2=>cases h
  rename_i id p
  obtain⟨o,y,b,off,h1,h2,h3,h4,hv⟩:=hr
  rw[h1]at h
  have kM:=jH _ h3
  simp only[kM]at h
  obtain⟨σ,y⟩:=y
  simp only at h kM
  split at h
  case h_2=>cases h
  rename_i tid e rZ
  cases rZ
  cases hT:decide (lk aa.ty T=some (.list false tid e.fz))with
  |false=>rw[hT]at h;cases h
  |true=>
  rw[hT,cond_true,sO]at h
  replace h:=Option.bind_eq_some_iff.1 h
  obtain⟨x',hx,h⟩:=h
  have a_:=qT.gw (τ:=.list true tid e) (ae.ty T _ (of_decide_eq_true hT)).1
  obtain⟨w',φ,hrun,bE,_⟩:=hs.storeAt h1 h2 h3 h4 a_ (y':=([]:List e.den)) (c':=[.slice none 0 0]) (f':=[]) ⟨.slice none 0 0,[],[],rfl,rfl,World.ownsRow_nil w 0 tid e.size,rfl,rfl⟩ List.nodup_nil (by simp) hx
  have mB:(Instr.storeAt T (.pointer (some ⟨b,off,none⟩)) (.slice none 0 0)).run P w = .ok () w':=hrun
  refine⟨_,h,RG (w':=w') ?_ ⟨H,_,bE.ah (by rw[hC.nt];exact hd) trivial⟩⟩
  simp[execOp,hv,KC,mB]
 |false=>
 rw[kO,cond_false]at h
 split at h
 ·exact qkR ae hC hs hd hr fh h
 unfold Aq at h
 split at h
 case h_2=>cases h
 rename_i id p
 obtain⟨o,y,b,off,h1,h2,h3,h4,hv⟩:=hr
 rw[h1]at h
 have kM:=jH _ h3
 simp only[h2,cond_false,kM]at h
 obtain⟨σ,y⟩:=y
 simp only at h kM
 cases hT:decide (lk aa.ty T=some σ.fz)with
 |false=>rw[hT]at h;cases h
 |true=>
 rw[hT,cond_true]at h
 have a_:=qT.gw (ae.ty T _ (of_decide_eq_true hT)).1
 have fin:∀{s2:St} {H2:FH} {v:Value} (hs2:qh P C s2 a w H2 Φ) (ho:s2.obj id=some o) {τ:Ty} {y':τ.den} {c':List Value} {f':List Nat},qm P τ w H2 y' c' f'->v=j7 τ c'->f'.Nodup->
   (∀k∈f',H2 k=none/\(C.M0 k\/C.w0.heap.size<=k)/\k<w.heap.size/\(∀j o',j≠id->s2.obj j=some o'->k∉(Φ j).fp)/\(k∈(Φ id).fp->ia P w H2 o (Φ id) p k))->
   ∀{x'},j6 o.τ o.x p τ y'=some x'->a.eval z=v->
   ew P C ⟨dst,.store T x z,ty,pos,after,guard⟩ a w (((s2.af (AV.cE id o.row o.τ p)).setObj id (some ⟨o.row,o.τ,x'⟩)).ah dst .dead):=by
  intro s2 H2 v hs2 ho τ y' c' f' an gl aq hf x' hx hz
  have:=Kq _ hx
  rw[kM]at this
  cases this
  obtain⟨w',φ,hrun,bE,_⟩:=hs2.storeAt ho h2 h3 h4 a_ an aq hf hx
  refine RG (w':=w') ?_ ⟨H2,_,bE.ah (by rw[hC.nt];exact hd) trivial⟩
  simp[execOp,hv,hz,gl,hrun]
 split at h
 ·-- a pending row
  rename_i id' p' tid e l
  cases aF:Nat.beq id id' with
  |false=>rw[aF]at h;cases h
  |true=>
  rw[aF,cond_true]at h
  obtain rfl:=Nat.eq_of_beq_eq_true aF
  replace h:=UC h
  obtain⟨rfl,h⟩:=h
  rw[sO]at h
  replace h:=Option.bind_eq_some_iff.1 h
  obtain⟨x',hx,h⟩:=h
  obtain⟨o',q1,q3,q4,fp,q0,q5,q6⟩:=fh
  rw[h1]at q1
  cases q1
  refine⟨_,h,fin hs h1 q5 rfl q0 ?_ hx rfl⟩
  intro b2 cO
  obtain⟨hlt,hh⟩:=q6 b2 cO
  rcases hh with hh|k1
  ·exact⟨hh.fz,hh.may,hlt,λj o' _ hj=>hh.obj j o' hj,λhk=>absurd hk (hh.obj id o h1)⟩
  ·have Wr:b2∈(Φ id).fp:=ia.fp (hs.os id o h1).1 k1
   obtain⟨g1,g2,g3⟩:=(hs.os id o h1).2 b2 Wr
   exact⟨g1,g2,g3,λj o' hj cu=>hs.aN id j o o' (λe=>hj e.symm) h1 cu b2 Wr,λ_=>k1⟩
 ·-- a row
  rename_i dX
  cases aF:Nat.beq id dX with
  |true=>rw[aF]at h;cases h
  |false=>
  rw[aF,cond_false]at h
  have hne:=Nat.ne_of_beq_eq_false aF
  split at h
  case h_2=>cases h
  rename_i o2 df
  cases hrow:o2.row with
  |false=>rw[hrow]at h;cases h
  |true=>
  rw[hrow,cond_true]at h
  obtain⟨o2',y2,q1,q2,q3⟩:=fh
  rw[df]at q1
  cases q1
  rw[hrow]at q3
  simp only[List.isEmpty_nil,Bool.and_self]at q3
  obtain⟨sc,dJ,g3⟩:=(hs.os dX o2 df).1
  rw[hrow]at g3
  obtain⟨_,Xd,IN,kA⟩:=g3
  cases hfz:σ.ay with
  |true=>
   rw[hfz,cond_true]at h
   simp only[sO]at h
   replace h:=Option.bind_eq_some_iff.1 h
   obtain⟨x',hx,h⟩:=h
   obtain⟨H',hle,hnew,hin,hs2⟩:=hs.freeze dX
   have bF:(s.freeze dX).obj id=some o:=by
    unfold St.freeze
    rw[df]
    show(St.setObj s dX none).obj id=some o
    rw[St.ak,if_neg (λe=>hne e.symm)]
    exact h1
   refine⟨_,h,fin hs2 bF (qm.eD o2.τ sc w hle (hin o2 df) kA _) ?_ (by simp) (by simp) hx q3⟩
   rw[TL];exact IN
  |false=>
   rw[hfz,cond_false,sO]at h
   replace h:=Option.bind_eq_some_iff.1 h
   obtain⟨x',hx,h⟩:=h
   have hs2:=hs.remove dX
   have bF:((s.kill dX).setObj dX none).obj id=some o:=by
    rw[St.ak,if_neg (λe=>hne e.symm)]
    exact h1
   refine⟨_,h,fin hs2 bF kA ?_ dJ ?_ hx q3⟩
   ·exact IN
   ·intro k hk
    obtain⟨k1,k2,k3⟩:=(hs.os dX o2 df).2 k hk
    refine⟨k1,k2,k3,λj o' hj cu=>?_,λhk2=>absurd hk2 (hs.aN dX id o2 o (λe=>hne e.symm) df h1 k hk)⟩
    rw[St.ak]at cu
    split at cu
    ·cases cu
    ·rename_i e
     exact hs.aN dX j o2 o' e df cu k hk
 ·-- a value
  rename_i τ y'
  cases hf:τ.ay with
  |false=>rw[hf]at h;cases h
  |true=>
  rw[hf,cond_true,sO]at h
  replace h:=Option.bind_eq_some_iff.1 h
  obtain⟨x',hx,h⟩:=h
  obtain⟨_,cs,fV,an⟩:=fh
  exact⟨_,h,fin hs h1 an rfl (by simp) (by simp) hx fV⟩
 ·rename_i τ y'
  cases hf:τ.ay with
  |false=>rw[hf]at h;cases h
  |true=>
  rw[hf,cond_true,sO]at h
  replace h:=Option.bind_eq_some_iff.1 h
  obtain⟨x',hx,h⟩:=h
  obtain⟨_,b2,o2,blk,fV,hH,an⟩:=fh
  have gA:qm P (.ptr τ) w H (some y') [.pointer (some ⟨b2,o2,none⟩)] []:=⟨rfl,b2,o2,blk,rfl,hH,an⟩
  exact⟨_,h,fin hs h1 gA rfl (by simp) (by simp) hx fV⟩
 ·cases h
theorem UH:∀{p q:List qu},rW p q=true->p=q
 |[],[],_=>rfl
 |.L::p,.L::q,h=>by rw[UH (p:=p) (q:=q) (by simpa[rW,qu.same]using h)]
 |.R::p,.R::q,h=>by rw[UH (p:=p) (q:=q) (by simpa[rW,qu.same]using h)]
 |.L::_,.R::_,h=>by simp[rW,qu.same]at h
 |.L::_,.I _::_,h=>by simp[rW,qu.same]at h
 |.R::_,.L::_,h=>by simp[rW,qu.same]at h
 |.R::_,.I _::_,h=>by simp[rW,qu.same]at h
 |.I _::_,.L::_,h=>by simp[rW,qu.same]at h
 |.I _::_,.R::_,h=>by simp[rW,qu.same]at h
 |.I _::_,.I _::_,h=>by simp[rW,qu.same]at h
 |[],_::_,h=>by simp[rW]at h
 |_::_,[],h=>by simp[rW]at h
theorem setRow_self{w:World}{b:Nat}{blk:Array Value}{t:TypeId}{f:Nat×Nat}(h:w.heap[b]? = some (.cells blk t f)):w.setRow b blk=w:=by
 obtain⟨hlt,he⟩:=Array.getElem?_eq_some_iff.1 h
 have e:(w.setRow b blk).heap=w.heap:=by
  unfold World.setRow
  apply Array.ext
  ·simp
  ·intro i h1 h2
   simp only[Array.getElem_modify]
   split
   ·rename_i yt
    subst yt
    rw[he]
   ·rfl
 calc w.setRow b blk={w with heap:=(w.setRow b blk).heap}:=rfl
  _=w:=by rw[e]
theorem HT(ae:qx P aa)(hC:qD C aa){T:TypeId}{x z:Operand}{id:Nat}{p:List qu}(hs:qh P C s a w H Φ)(hd:qK aa.nt dst=true)(iZ:qiE s x z=some (id,p))(h:AB s (lk aa.ty T) id p (λs=>k (s.ah dst .dead))=some r):
  ∃s',k s'=some r/\ew P C ⟨dst,.store T x z,ty,pos,after,guard⟩ a w s':=by
 unfold qiE at iZ
 split at iZ
 case h_2=>cases iZ
 rename_i id1 p1 dX q gq gp
 cases hq:Nat.beq id1 dX&&rW p1 q with
 |false=>rw[hq]at iZ;cases iZ
 |true=>
 rw[hq,cond_true]at iZ
 cases iZ
 rw[Bool.and_eq_true]at hq
 obtain rfl:=Nat.eq_of_beq_eq_true hq.1
 obtain rfl:=UH hq.2
 obtain⟨o,y,b,off,h1,h2,h3,h4,hv⟩:=ql hs qy gq
 obtain⟨o',y',k1,k2,k3⟩:=ql hs qy gp
 rw[h1]at k1
 cases k1
 rw[h3]at k2
 cases k2
 rw[h2]at k3
 obtain⟨b',off',blk,t,k4,k5,k6⟩:=k3
 obtain⟨rfl,rfl⟩:=jV.fN h4 k4
 unfold AB at h
 rw[h1]at h
 have kM:=jH _ h3
 simp only[h2,cond_false,kM]at h
 obtain⟨σ,y⟩:=y
 simp only at h kM k6
 split at h
 case h_3=>cases h
 case h_2=>
  rename_i τ hne rZ
  cases rZ
  cases hT:decide (lk aa.ty T=some σ.fz)with
  |false=>rw[hT]at h;cases h
  |true=>
  rw[hT,cond_true]at h
  have a_:=qT.gw (τ:=σ) (ae.ty T _ (of_decide_eq_true hT)).1
  obtain⟨b',o',aX,t',pre',c,post',f1,f,f2,e1,e2,e3,e4,e5,e6,hl',_⟩:=(hs.os id o h1).1.h_ h3 ⟨w,_,_,h4⟩ h2
  obtain⟨rfl,rfl⟩:=jV.fN h4 (hl' w (λ_ _=>rfl))
  rw[k5]at e1
  cases e1
  have hlen:=qm.length _ e6
  have eB:ct blk off σ.size=c:=by rw[<-e3];exact qZ e2 hlen
  have KC:a.eval z=j7 σ c:=by rw[k6,eB]
  have hrun:=qgu a_ k5 e2 hlen hlen (qm.one _ e6)
  rw[<-e2,Array.toArray_toList,e3,setRow_self k5]at hrun
  have mB:(Instr.storeAt T (.pointer (some ⟨b,off,none⟩)) (j7 σ c)).run P w = .ok () w:=hrun
  refine⟨_,h,RG (w':=w) ?_ ⟨H,_,hs.ah (by rw[hC.nt];exact hd) trivial⟩⟩
  simp[execOp,hv,KC,mB]
 rename_i tid e rZ
 cases rZ
 cases hT:e.ay&&decide (lk aa.ty T=some (.list false tid e.fz))with
 |false=>rw[hT]at h;cases h
 |true=>
 rw[hT,cond_true,jJ,h3]at h
 rw[Bool.and_eq_true]at hT
 simp only[Option.bind_some,sO]at h
 replace h:=Option.bind_eq_some_iff.1 h
 obtain⟨x',hx,h⟩:=h
 have a_:=qT.gw (τ:=.list true tid e) (ae.ty T _ (of_decide_eq_true hT.2)).1
 obtain⟨b',o',aX,t',pre',c,post',f1,f,f2,e1,e2,e3,e4,e5,e6,hl',_⟩:=(hs.os id o h1).1.h_ h3 ⟨w,_,_,h4⟩ h2
 obtain⟨rfl,rfl⟩:=jV.fN h4 (hl' w (λ_ _=>rfl))
 rw[k5]at e1
 cases e1
 obtain⟨ax,xs,aC,rfl,hf,ho,hch⟩:=e6
 have nF:=qd.iE (λ_ _ _ hh=>qm.dg e hT.1 hh) hch
 subst nF
 rw[List.append_nil]at hf
 subst hf
 have an:qm P (.list true tid e) w H y [ax] ax.ownBlock.toList:=⟨ax,xs,[],rfl,by simp,ho,hch⟩
 have eB:ct blk off (Ty.list true tid e).size=[ax]:=by rw[<-e3];exact qZ e2 rfl
 have KC:a.eval z=ax:=by rw[k6,eB];rfl
 have hcell:w.cell? ⟨b,off,none⟩=some ax:=by
  rw[qw k5,<-Array.getElem?_toList,e2,<-e3]
  simp
 obtain⟨w',φ,hrun,bE,_⟩:=hs.storeAt h1 h2 h3 h4 a_ (y':=y) (c':=[ax]) an (by cases ax.ownBlock<;>simp) (by
  intro k hk
  have hk':k∈(Φ id).fp:=by rw[e4];simp[hk]
  obtain⟨g1,g2,g3⟩:=(hs.os id o h1).2 k hk'
  exact⟨g1,g2,g3,λj o' hj cu=>hs.aN id j o o' (λe=>hj e.symm) h1 cu k hk',λ_=>by
   unfold ia
   rw[h2]
   exact⟨⟨.list true tid e,y⟩,b,off,_,_,ax.ownBlock.toList,h3,h4,k5,by simp only[eB];exact an,hk⟩⟩) hx
 have mB:(Instr.storeAt T (.pointer (some ⟨b,off,none⟩)) ax).run P w = .ok () w':=hrun
 refine⟨_,h,RG (w':=w') ?_ ⟨H,_,bE.ah (by rw[hC.nt];exact hd) trivial⟩⟩
 simp[execOp,hv,KC,mB]
theorem Bn(ae:qx P aa)(hC:qD C aa){T:TypeId}{x z:Operand}(hs:qh P C s a w H Φ)(hd:qK aa.nt dst=true)(h:qM aa ⟨dst,.store T x z,ty,pos,after,guard⟩ s k=some r):
  ∃s',k s'=some r/\ew P C ⟨dst,.store T x z,ty,pos,after,guard⟩ a w s':=by
 simp only[qM]at h
 split at h
 ·rename_i id p iZ
  exact HT ae hC hs hd iZ h
 ·obtain⟨H',hs'⟩:=hs.ug z
  exact qon ae hC hs' hd h
end
end Go.Vi
namespace Go.Vi
section
variable {P:Program} {C:cM} {aa:jB} {R:Type} {r:R} {s:St} {a:Act} {w:World} {H:FH} {Φ:Nat->qH} {dst:Option Nat} {ty:TypeId} {pos:String} {after:Array Edge} {guard:Option (Nat×Bool)} {k:St->Option R}
def RJ(ck:List (List Value)):List (Nat×Value)->List (List Value)
 |[]=>ck
 |(i,v)::r=>RJ (ck.set i v.cells.toList) r
theorem qhO{α:Type}:∀(ck:List (List α)) (i:Nat) (c d:List α),ck[i]? = some c->∃pre post,ck.flatten=pre++c++post/\(ck.set i d).flatten=pre++d++post/\pre.length=((ck.take i).map List.length).sum
 |[],i,c,d,h=>by simp at h
 |x::ck,0,c,d,h=>by
  simp only[List.getElem?_cons_zero,Option.some.injEq]at h
  subst h
  exact⟨[],ck.flatten,by simp,by simp,by simp⟩
 |x::ck,i+1,c,d,h=>by
  obtain⟨pre,post,e1,e2,e3⟩:=qhO ck i c d (by simpa using h)
  exact⟨x++pre,post,by simp[e1],by simp[e2],by simp[e3]⟩
theorem qjp(pre mid post:List Value)(l:Array Value)(cells:Array Value)(h:cells.toList=pre++mid++post)(hl:l.size=mid.length):
  (l.zipIdx.foldl (λcs (x:Value×Nat)=>cs.setIfInBounds (pre.length+x.2) x.1) cells).toList=pre++l.toList++post:=by
 rw[<-Array.foldl_toList,Array.toList_zipIdx]
 obtain⟨h1,h2⟩:=Great.foldl_set pre.length l.toList 0 cells
 have hsz:cells.size=pre.length+mid.length+post.length:=by rw[<-Array.length_toList,h];simp[Nat.add_assoc]
 apply List.ext_getElem?
 intro k
 rw[Array.getElem?_toList,h2 k,<-Array.getElem?_toList,h]
 simp only[Nat.add_zero,Array.length_toList]
 by_cases hk:pre.length<=k/\k<pre.length+l.size/\k<cells.size
 ·rw[if_pos hk,List.append_assoc,List.getElem?_append_right hk.1,List.getElem?_append_left (by rw[Array.length_toList (xs:=l)];omega)]
 ·rw[if_neg hk]
  by_cases wT:k<pre.length
  ·rw[List.append_assoc,List.append_assoc,List.getElem?_append_left wT,List.getElem?_append_left wT]
  ·rw[List.getElem?_append_right (by simp;omega),List.getElem?_append_right (by simp;omega)]
   simp[hl]
theorem qhQ(place:Nat->Option (Nat×Nat))(QU:List Nat)(kg:∀i n,QU[i]? = some n->place i=some ((QU.take i).sum,n)):
  ∀(parts:List (Nat×Value)) (ck:List (List Value)) (cells:Array Value),ck.map List.length=QU->cells.toList=ck.flatten->(∀x∈parts,QU[x.1]? = some x.2.cells.size)->
   ∃cells',Instr.fill place cells parts=some cells'/\cells'.toList=(RJ ck parts).flatten
 |[],ck,cells,_,h,_=>⟨cells,rfl,h⟩
 |(i,v)::rest,ck,cells,hs,h,hp=>by
  have hi:=hp (i,v) List.mem_cons_self
  simp only at hi
  have hc:∃c,ck[i]? = some c/\c.length=v.cells.size:=by
   rw[<-hs,List.getElem?_map]at hi
   obtain⟨c,h1,h2⟩:=Option.map_eq_some_iff.1 hi
   exact⟨c,h1,h2⟩
  obtain⟨c,hc,hl⟩:=hc
  obtain⟨pre,post,e1,e2,e3⟩:=qhO ck i c v.cells.toList hc
  have hpre:pre.length=(QU.take i).sum:=by rw[e3,<-hs,List.map_take]
  have Wi:=qjp pre c post v.cells cells (by rw[h,e1]) hl.symm
  have hsz:cells.size=pre.length+c.length+post.length:=by rw[<-Array.length_toList,h,e1];simp[Nat.add_assoc]
  unfold Instr.fill
  rw[kg i _ hi]
  simp only
  rw[if_neg (by simp;omega),<-hpre]
  refine qhQ place QU kg rest (ck.set i v.cells.toList) _ ?_ (by rw[e2];exact Wi) (λx hx=>hp x (List.mem_cons_of_mem _ hx))
  rw[List.map_set,Array.length_toList,<-hs]
  apply List.ext_getElem?
  intro j
  rw[List.getElem?_set]
  split
  ·rename_i e
   subst e
   split
   ·rw[List.getElem?_map,hc,Option.map_some,hl]
   ·rename_i hn
    simp only[List.length_map,Nat.not_lt]at hn
    rw[List.getElem?_eq_none (by simpa using hn)]
  ·rfl
theorem Gs{n:Nat}:∀{l:List Nat},j4 n l=true↔n∈l
 |[]=>by simp[j4]
 |m::r=>by
  simp only[j4,Bool.or_eq_true,List.mem_cons,Gs (l:=r)]
  constructor
  ·rintro(h|h)
   ·exact .inl (Nat.eq_of_beq_eq_true h).symm
   ·exact .inr h
  ·rintro(h|h)
   ·subst h;exact .inl (Nat.beq_refl _)
   ·exact .inr h
theorem Kr:∀{l r:List Nat},apart l r=true->l.Nodup/\∀x∈l,x∉r
 |[],_,_=>by simp
 |m::l,r,h=>by
  simp only[apart,Bool.and_eq_true,Bool.not_eq_true']at h
  obtain⟨⟨h1,h2⟩,h3⟩:=h
  obtain⟨h4,h5⟩:=Kr h3
  have zG:m∉l:=λhm=>by rw[Gs.2 hm]at h1;cases h1
  have Sx:m∉r:=λhm=>by rw[Gs.2 hm]at h2;cases h2
  refine⟨List.nodup_cons.2 ⟨zG,h4⟩,?_⟩
  intro x hx
  rcases List.mem_cons.1 hx with rfl|hx
  ·exact Sx
  ·exact h5 x hx
theorem jW{α:Type}(m n:Nat)(a:α)(r:List (Nat×α)):lk ((m,a)::r) n=bif Nat.beq m n then some a else lk r n:=rfl
theorem My{α:Type}{n:Nat}:∀{l:List (Nat×α)},n∉l.map (·.1)->lk l n=none
 |[],_=>rfl
 |(m,a)::l,h=>by
  simp only[List.map_cons,List.mem_cons,not_or]at h
  unfold lk
  have:Nat.beq m n=false:=by
   cases hb:Nat.beq m n with
   |false=>rfl
   |true=>exact absurd (Nat.eq_of_beq_eq_true hb).symm h.1
  rw[this]
  exact My h.2
theorem qfP:∀(parts:List (Nat×Value)) (ck:List (List Value)),(parts.map (·.1)).Nodup->∀i,i<ck.length->(RJ ck parts)[i]? = match lk parts i with|some v=>some v.cells.toList|none=>ck[i]?
 |[],ck,_,i,_=>rfl
 |(j,v)::rest,ck,aq,i,hi=>by
  simp only[List.map_cons,List.nodup_cons]at aq
  unfold RJ
  rw[qfP rest _ aq.2 i (by simpa using hi)]
  rw[jW]
  cases hb:Nat.beq j i with
  |true=>
   obtain rfl:=Nat.eq_of_beq_eq_true hb
   rw[My aq.1]
   simp[hi]
  |false=>
   have:=Nat.ne_of_beq_eq_false hb
   simp[List.getElem?_set_ne this]
theorem qeh:∀(parts:List (Nat×Value)) (ck:List (List Value)),(RJ ck parts).length=ck.length
 |[],_=>rfl
 |(j,v)::rest,ck=>by unfold RJ;rw[qeh rest];simp
theorem qgk(place:Nat->Option (Nat×Nat))(parts:List (Nat×Value))(zs ck:List (List Value))(cells:Array Value)(kg:∀i z,zs[i]? = some z->place i=some (((zs.take i).map List.length).sum,z.length))(hcells:cells.toList=zs.flatten)
  (aq:(parts.map (·.1)).Nodup) (hin:∀x∈parts,x.1<zs.length) (hlen:ck.length=zs.length) (hcs:∀i c,ck[i]? = some c->(∀z,zs[i]? = some z->c.length=z.length)/\match lk parts i with|some v=>v.cells.toList=c|none=>zs[i]? = some c):
  ∃cells',Instr.fill place cells parts=some cells'/\cells'.toList=ck.flatten:=by
 have hlk:∀{l:List (Nat×Value)},(l.map (·.1)).Nodup->∀x∈l,lk l x.1=some x.2:=by
  intro l
  induction l with
  |nil=>intro _ x hx;cases hx
  |cons y l ih=>
   intro aq x hx
   simp only[List.map_cons,List.nodup_cons]at aq
   obtain⟨j,v⟩:=y
   unfold lk
   rcases List.mem_cons.1 hx with rfl|hx
   ·simp[Nat.beq_refl]
   ·have:Nat.beq j x.1=false:=by
     cases hb:Nat.beq j x.1 with
     |false=>rfl
     |true=>
      have:=Nat.eq_of_beq_eq_true hb
      exact absurd (List.mem_map.2 ⟨x,hx,this.symm⟩) aq.1
    rw[this]
    exact ih aq.2 x hx
 obtain⟨cells',h1,h2⟩:=qhQ place (zs.map List.length) (λi n hn=>by
  rw[List.getElem?_map]at hn
  obtain⟨z,h3,h4⟩:=Option.map_eq_some_iff.1 hn
  rw[kg i z h3,<-List.map_take,h4]) parts zs cells rfl hcells (λx hx=>by
  have hlt:=hin x hx
  have IE:x.1<ck.length:=by omega
  obtain⟨h3,h4⟩:=hcs x.1 ck[x.1] (List.getElem?_eq_getElem IE)
  rw[hlk aq x hx]at h4
  simp only at h4
  rw[List.getElem?_map,List.getElem?_eq_getElem hlt,Option.map_some,<-h3 _ (List.getElem?_eq_getElem hlt),<-h4,Array.length_toList])
 refine⟨cells',h1,?_⟩
 rw[h2]
 congr 1
 apply List.ext_getElem?
 intro i
 by_cases hi:i<zs.length
 ·rw[qfP parts zs aq i hi]
  have hi2:i<ck.length:=by omega
  obtain⟨_,h4⟩:=hcs i ck[i] (List.getElem?_eq_getElem hi2)
  rw[List.getElem?_eq_getElem hi2]
  cases hv:lk parts i with
  |some v=>rw[hv]at h4;simp only at h4 ⊢;rw[h4]
  |none=>rw[hv]at h4;exact h4
 ·rw[List.getElem?_eq_none (by rw[qeh];omega),List.getElem?_eq_none (by omega)]
theorem ZA{s0:St}{H0:FH}{parts:List (Nat×AV)}{dM:List (Nat×Value)}(hparts:∀n,(lk parts n=none/\lk dM n=none)\/∃av v,lk parts n=some av/\lk dM n=some v/\qi P C w H0 Φ s0.obj av v)
  (hs:qh P C s a w H Φ) (hle:H0.le H) (hsub:∀id o,s.obj id=some o->s0.obj id=some o) {τ:Ty} (hn:τ.aD=true) {n:Nat} {s':St} {x:τ.den} (h:MA s parts τ n=some (s',x)):
  ∃H' c,H.le H'/\qh P C s' a w H' Φ/\(∀id o,s'.obj id=some o->s.obj id=some o)/\qm P τ w H' x c []/\(∀b c,H' b=some c->H b=some c\/∃id o,s.obj id=some o/\b∈(Φ id).fp)/\(match lk dM n with|some v=>v=j7 τ c|none=>c=τ.zeroCells):=by
 unfold MA at h
 rcases hparts n with⟨h1,h2⟩|⟨av,v,h1,h2,hr⟩
 ·rw[h1]at h
  cases h
  exact⟨H,_,FH.le_refl _,hs,λ_ _ h=>h,qm.zero τ hn,λ_ _ h=>.inl h,by rw[h2]⟩
 ·rw[h1]at h
  rw[h2]
  split at h
  ·rename_i e;cases e
  ·rename_i σ y e
   cases e
   split at h
   ·rename_i y' hy
    cases h
    obtain⟨e,hy⟩:=qg hy
    subst e
    subst hy
    obtain⟨_,cs,hv,an⟩:=hr
    exact⟨H,cs,FH.le_refl _,hs,λ_ _ h=>h,qm.mono _ hle (by simp) an,λ_ _ h=>.inl h,hv⟩
   ·cases h
  ·rename_i σ y e
   cases e
   split at h
   ·rename_i y' hy
    cases h
    obtain⟨e,hy⟩:=qg hy
    subst e
    subst hy
    obtain⟨_,b,o,blk,hv,hH,an⟩:=hr
    exact⟨H,[v],FH.le_refl _,hs,λ_ _ h=>h,⟨rfl,b,o,blk,by rw[hv],hle _ _ hH,qm.mono _ hle (by simp) an⟩,λ_ _ h=>.inl h,rfl⟩
   ·cases h
  ·rename_i id e
   cases e
   split at h
   ·rename_i o ho
    cases hrow:o.row with
    |false=>rw[hrow]at h;cases h
    |true=>
     rw[hrow,cond_true]at h
     split at h
     ·rename_i y' hy
      cases h
      obtain⟨e,hy⟩:=qg hy
      subst e
      subst hy
      obtain⟨o',y2,q1,q2,q3⟩:=hr
      rw[hsub id o ho]at q1
      cases q1
      rw[hrow]at q3
      simp only[List.isEmpty_nil,Bool.and_self]at q3
      obtain⟨sc,_,g3⟩:=(hs.os id o ho).1
      rw[hrow]at g3
      obtain⟨_,cs,hcs,an⟩:=g3
      obtain⟨H',hle',hnw,hin,hs'⟩:=hs.freeze id
      refine⟨H',cs,hle',hs',?_,qm.eD o.τ sc w hle' (hin o ho) an _,λb c hb=>(hnw b c hb).imp_right (λhh=>⟨id,hh⟩),?_⟩
      ·intro j o2 hj
       unfold St.freeze at hj
       rw[ho]at hj
       have hj':(St.setObj s id none).obj j=some o2:=hj
       rw[St.ak]at hj'
       split at hj'
       ·cases hj'
       ·exact hj'
      ·simp only[q3]
       rw[TL]
       exact hcs
     ·cases h
   ·cases h
  ·cases h
def c_:Ty->List Ty
 |.pair a b=>a::c_ b
 |t=>[t]
theorem qn4:(τ:Ty)->∀{i},uI τ i=true->i<(c_ τ).length
 |.pair a b,0,_=>by simp[c_]
 |.pair a b,i+1,h=>by simpa[c_]using qn4 b h
 |.int _,i,h=>by have:=Nat.eq_of_beq_eq_true h;subst this;simp[c_]
 |.bool,i,h=>by have:=Nat.eq_of_beq_eq_true h;subst this;simp[c_]
 |.list _ _ _,i,h=>by have:=Nat.eq_of_beq_eq_true h;subst this;simp[c_]
 |.str _,i,h=>by have:=Nat.eq_of_beq_eq_true h;subst this;simp[c_]
 |.ptr _,i,h=>by have:=Nat.eq_of_beq_eq_true h;subst this;simp[c_]
 |.op _,i,h=>by have:=Nat.eq_of_beq_eq_true h;subst this;simp[c_]
 |.arr _ _,i,h=>by have:=Nat.eq_of_beq_eq_true h;subst this;simp[c_]
 |.fn _ _,i,h=>by have:=Nat.eq_of_beq_eq_true h;subst this;simp[c_]
 |.bQ _ _ _,i,h=>by have:=Nat.eq_of_beq_eq_true h;subst this;simp[c_]
 |.ext _ _ _ _,i,h=>by have:=Nat.eq_of_beq_eq_true h;subst this;simp[c_]
theorem qjm:(τ:Ty)->τ.zeroCells=((c_ τ).map Ty.zeroCells).flatten
 |.pair a b=>by simp[c_,Ty.zeroCells,qjm b]
 |.int _=>by simp[c_]
 |.bool=>by simp[c_]
 |.list _ _ _=>by simp[c_]
 |.str _=>by simp[c_]
 |.ptr _=>by simp[c_]
 |.op _=>by simp[c_]
 |.arr _ _=>by simp[c_]
 |.fn _ _=>by simp[c_]
 |.bQ _ _ _=>by simp[c_]
 |.ext _ _ _ _=>by simp[c_]
theorem Gi(τ:Ty)(h1:c_ τ=[τ])(h2:∀l o,(cQ P τ).2 l o=(match l with|[x]=>Nat.beq x.offset o&&(cQ P τ).1 x.type|_=>false)){l:List Field}{o:Nat}(h:nR P τ l o):
  (∀σ∈c_ τ,∃t,qT P t σ)/\l.mapM (λf=>(P.info? f.type).map λi=>(f.offset,i.size))=some ((List.range (c_ τ).length).map λi=>(o+(((c_ τ).take i).map Ty.size).sum,(((c_ τ)[i]?).map Ty.size).getD 0)):=by
 unfold nR at h
 rw[h2]at h
 split at h
 ·rename_i f
  rw[Bool.and_eq_true]at h
  have e:=Nat.eq_of_beq_eq_true h.1
  have ht:qT P f.type τ:=h.2
  obtain⟨i,hi,hsz,_⟩:=ht.info
  rw[h1]
  refine⟨λσ rZ=>⟨f.type,by rw[List.mem_singleton.1 rZ];exact ht⟩,?_⟩
  simp[hi,hsz,e]
 ·cases h
theorem qjn:(τ:Ty)->∀{l:List Field} {o:Nat},nR P τ l o->
  (∀σ∈c_ τ,∃t,qT P t σ)/\l.mapM (λf=>(P.info? f.type).map λi=>(f.offset,i.size))=some ((List.range (c_ τ).length).map λi=>(o+(((c_ τ).take i).map Ty.size).sum,(((c_ τ)[i]?).map Ty.size).getD 0))
 |.pair a b,l,o,h=>by
  unfold nR cQ at h
  simp only at h
  split at h
  ·rename_i f g rest
   simp only[Bool.and_eq_true]at h
   obtain⟨⟨h1,h2⟩,h3⟩:=h
   have e:=Nat.eq_of_beq_eq_true h1
   have ht:qT P f.type a:=h2
   obtain⟨i,hi,hsz,_⟩:=ht.info
   obtain⟨k1,k2⟩:=qjn b (l:=g::rest) (o:=o+a.size) h3
   refine⟨?_,?_⟩
   ·intro σ rZ
    rcases List.mem_cons.1 rZ with rfl|rZ
    ·exact⟨f.type,ht⟩
    ·exact k1 σ rZ
   ·rw[List.mapM_cons,k2]
    simp only[hi,c_,List.length_cons,List.range_succ_eq_map,Option.map_some]
    simp[e,hsz,Nat.add_assoc,Function.comp_def]
  ·cases h
 |.int k,_,_,h=>Gi (.int k) rfl (λ_ _=>rfl) h
 |.bool,_,_,h=>Gi (.bool) rfl (λ_ _=>rfl) h
 |.list a b c,_,_,h=>Gi (.list a b c) rfl (λ_ _=>rfl) h
 |.str t,_,_,h=>Gi (.str t) rfl (λ_ _=>rfl) h
 |.ptr t,_,_,h=>Gi (.ptr t) rfl (λ_ _=>rfl) h
 |.op t,_,_,h=>Gi (.op t) rfl (λ_ _=>rfl) h
 |.arr n e,_,_,h=>Gi (.arr n e) rfl (λ_ _=>rfl) h
 |.fn a b,_,_,h=>Gi (.fn a b) rfl (λ_ _=>rfl) h
 |.bQ a b c,_,_,h=>Gi (.bQ a b c) rfl (λ_ _=>rfl) h
 |.ext o n i j,_,_,h=>Gi (.ext o n i j) rfl (λ_ _=>rfl) h
theorem Hy{s0:St}{H0:FH}{parts:List (Nat×AV)}{dM:List (Nat×Value)}(hparts:∀n,(lk parts n=none/\lk dM n=none)\/∃av v,lk parts n=some av/\lk dM n=some v/\qi P C w H0 Φ s0.obj av v)
  (τ:Ty) (h1:c_ τ=[τ]) (h2:∀s n,QW s parts τ n=MA s parts τ n) {s:St} {H:FH} {n:Nat} {s':St} {x:τ.den} (hs:qh P C s a w H Φ) (hle:H0.le H) (hsub:∀id o,s.obj id=some o->s0.obj id=some o) (hn:τ.aD=true) (h:QW s parts τ n=some (s',x)):
  ∃(H':FH) (ck:List (List Value)),H.le H'/\qh P C s' a w H' Φ/\(∀id o,s'.obj id=some o->s.obj id=some o)/\qm P τ w H' x ck.flatten []/\ck.length=(c_ τ).length/\
   ∀i σ,(c_ τ)[i]? = some σ->∃c,ck[i]? = some c/\c.length=σ.size/\(∀v∈c,v.oneCell'=true)/\match lk dM (n+i)with|some v=>v=j7 σ c|none=>c=σ.zeroCells:=by
 rw[h2]at h
 obtain⟨H',c,k1,k2,k3,k4,_,k5⟩:=ZA hparts hs hle hsub hn h
 rw[h1]
 refine⟨H',[c],k1,k2,k3,by simpa using k4,rfl,?_⟩
 intro i σ hi
 match i with
 |0=>
  simp only[List.getElem?_cons_zero,Option.some.injEq]at hi
  subst hi
  exact⟨c,rfl,qm.length _ k4,qm.one _ k4,k5⟩
 |i+1=>simp at hi
theorem ql5{s0:St}{H0:FH}{parts:List (Nat×AV)}{dM:List (Nat×Value)}(hparts:∀n,(lk parts n=none/\lk dM n=none)\/∃av v,lk parts n=some av/\lk dM n=some v/\qi P C w H0 Φ s0.obj av v):
  (τ:Ty)->∀{s:St} {H:FH} {n:Nat} {s':St} {x:τ.den},qh P C s a w H Φ->H0.le H->(∀id o,s.obj id=some o->s0.obj id=some o)->τ.aD=true->QW s parts τ n=some (s',x)->
  ∃(H':FH) (ck:List (List Value)),H.le H'/\qh P C s' a w H' Φ/\(∀id o,s'.obj id=some o->s.obj id=some o)/\qm P τ w H' x ck.flatten []/\ck.length=(c_ τ).length/\
   ∀i σ,(c_ τ)[i]? = some σ->∃c,ck[i]? = some c/\c.length=σ.size/\(∀v∈c,v.oneCell'=true)/\match lk dM (n+i)with|some v=>v=j7 σ c|none=>c=σ.zeroCells
 |.pair t1 t2,s,H,n,s',x,hs,hle,hsub,hn,h=>by
  simp only[Ty.aD,Bool.and_eq_true]at hn
  unfold QW at h
  split at h
  ·rename_i s1 x1 h1
   split at h
   ·rename_i s2 x2 h2
    cases h
    obtain⟨H1,c,k1,k2,k3,k4,_,k5⟩:=ZA hparts hs hle hsub hn.1 h1
    obtain⟨H2,ck,m1,m2,m3,m4,m5,m6⟩:=ql5 hparts t2 k2 (FH.le_trans hle k1) (λid o ho=>hsub id o (k3 id o ho)) hn.2 h2
    refine⟨H2,c::ck,FH.le_trans k1 m1,m2,λid o ho=>k3 id o (m3 id o ho),⟨c,ck.flatten,[],[],by simp,rfl,qm.mono _ m1 (by simp) k4,m4⟩,by simp[c_,m5],?_⟩
    intro i σ hi
    match i with
    |0=>
     simp only[c_,List.getElem?_cons_zero,Option.some.injEq]at hi
     subst hi
     exact⟨c,rfl,qm.length _ k4,qm.one _ k4,k5⟩
    |i+1=>
     obtain⟨c',q1,q2,q3,q4⟩:=m6 i σ (by simpa[c_]using hi)
     exact⟨c',by simpa using q1,q2,q3,by rw[show n+(i+1)=n+1+i by omega];exact q4⟩
   ·cases h
  ·cases h
 |.int k,_,_,_,_,_,hs,hle,hsub,hn,h=>Hy hparts (.int k) rfl (λ_ _=>rfl) hs hle hsub hn h
 |.bool,_,_,_,_,_,hs,hle,hsub,hn,h=>Hy hparts (.bool) rfl (λ_ _=>rfl) hs hle hsub hn h
 |.list a b c,_,_,_,_,_,hs,hle,hsub,hn,h=>Hy hparts (.list a b c) rfl (λ_ _=>rfl) hs hle hsub hn h
 |.str t,_,_,_,_,_,hs,hle,hsub,hn,h=>Hy hparts (.str t) rfl (λ_ _=>rfl) hs hle hsub hn h
 |.ptr t,_,_,_,_,_,hs,hle,hsub,hn,h=>Hy hparts (.ptr t) rfl (λ_ _=>rfl) hs hle hsub hn h
 |.op t,_,_,_,_,_,hs,hle,hsub,hn,h=>Hy hparts (.op t) rfl (λ_ _=>rfl) hs hle hsub hn h
 |.arr n e,_,_,_,_,_,hs,hle,hsub,hn,h=>Hy hparts (.arr n e) rfl (λ_ _=>rfl) hs hle hsub hn h
 |.fn a b,_,_,_,_,_,hs,hle,hsub,hn,h=>Hy hparts (.fn a b) rfl (λ_ _=>rfl) hs hle hsub hn h
 |.bQ a b c,_,_,_,_,_,hs,hle,hsub,hn,h=>Hy hparts (.bQ a b c) rfl (λ_ _=>rfl) hs hle hsub hn h
theorem qiZ{s0:St}{H0:FH}{parts:List (Nat×AV)}{dM:List (Nat×Value)}(hparts:∀n,(lk parts n=none/\lk dM n=none)\/∃av v,lk parts n=some av/\lk dM n=some v/\qi P C w H0 Φ s0.obj av v)
  (hs:qh P C s a w H Φ) (hle:H0.le H) (hsub:∀id o,s.obj id=some o->s0.obj id=some o) {τ:Ty} (hn:τ.aD=true) {n:Nat} {s':St} {x:τ.den} (h:Ue s parts τ n=some (s',x)):
  ∃H' c fp,H.le H'/\qh P C s' a w H' Φ/\(∀id o,s'.obj id=some o->s.obj id=some o)/\qm P τ w H' x c fp/\fp.Nodup/\(∀b∈fp,ei C w H' Φ s'.obj b/\¬ei C w H Φ s.obj b)/\(∀b,ei C w H Φ s.obj b->ei C w H' Φ s'.obj b)/\(match lk dM n with|some v=>v=j7 τ c|none=>c=τ.zeroCells):=by
 unfold Ue at h
 cases hf:τ.ay with
 |true=>
  rw[hf,cond_true]at h
  obtain⟨H',c,k1,k2,k3,k4,k5,k6⟩:=ZA hparts hs hle hsub hn h
  refine⟨H',c,[],k1,k2,k3,k4,List.nodup_nil,by simp,λb hb=>⟨?_,λid o ho=>hb.obj id o (k3 id o ho),hb.may,hb.lt⟩,k6⟩
  cases hq:H' b with
  |none=>rfl
  |some c=>
   rcases k5 b c hq with h1|⟨id,o,ho,hb'⟩
   ·rw[hb.fz]at h1;cases h1
   ·exact absurd hb' (hb.obj id o ho)
 |false=>
  rw[hf,cond_false]at h
  rcases hparts n with⟨h1,h2⟩|⟨av,v,h1,h2,hr⟩
  ·rw[h1]at h
   cases h
   exact⟨H,_,[],FH.le_refl _,hs,λ_ _ h=>h,qm.zero τ hn,List.nodup_nil,by simp,λ_ h=>h,by rw[h2]⟩
  ·rw[h1]at h
   rw[h2]
   split at h
   ·rename_i e;cases e
   ·rename_i id e
    cases e
    split at h
    ·rename_i o ho
     cases hrow:o.row with
     |false=>rw[hrow]at h;cases h
     |true=>
      rw[hrow,cond_true]at h
      split at h
      ·rename_i y' hy
       cases h
       obtain⟨e,hy⟩:=qg hy
       obtain⟨row,σ,ox⟩:=o
       simp only at e hrow
       subst e
       subst hrow
       subst hy
       obtain⟨o',y2,q1,q2,q3⟩:=hr
       rw[hsub id _ ho]at q1
       cases q1
       simp only[List.isEmpty_nil,Bool.and_self]at q3
       obtain⟨sc,aq,g3⟩:=(hs.os id _ ho).1
       obtain⟨_,cs,hcs,an⟩:=g3
       have hfr:=(hs.os id _ ho).2
       refine⟨H,cs,(Φ id).fp,FH.le_refl _,hs.remove id,?_,an,aq,?_,?_,?_⟩
       ·intro j o2 hj
        rw[St.ak]at hj
        split at hj
        ·cases hj
        ·exact hj
       ·intro b hb
        obtain⟨p1,p2,p3⟩:=hfr b hb
        refine⟨⟨p1,λj o2 hj=>?_,p2,p3⟩,λhh=>hh.obj id _ ho hb⟩
        rw[St.ak]at hj
        split at hj
        ·cases hj
        ·rename_i hne
         exact hs.aN id j _ o2 hne ho hj b hb
       ·intro b hb
        refine⟨hb.fz,λj o2 hj=>?_,hb.may,hb.lt⟩
        rw[St.ak]at hj
        split at hj
        ·cases hj
        ·exact hb.obj j o2 hj
       ·simp only[q3]
        exact hcs
      ·cases h
    ·cases h
   ·cases h
theorem Hz{s0:St}{H0:FH}{parts:List (Nat×AV)}{dM:List (Nat×Value)}(hparts:∀n,(lk parts n=none/\lk dM n=none)\/∃av v,lk parts n=some av/\lk dM n=some v/\qi P C w H0 Φ s0.obj av v)
  (τ:Ty) (h1:c_ τ=[τ]) (h2:∀s n,QX s parts τ n=Ue s parts τ n) {s:St} {H:FH} {n:Nat} {s':St} {x:τ.den} (hs:qh P C s a w H Φ) (hle:H0.le H) (hsub:∀id o,s.obj id=some o->s0.obj id=some o) (hn:τ.aD=true) (h:QX s parts τ n=some (s',x)):
  ∃(H':FH) (ck:List (List Value)) (fp:List Nat),H.le H'/\qh P C s' a w H' Φ/\(∀id o,s'.obj id=some o->s.obj id=some o)/\qm P τ w H' x ck.flatten fp/\ck.length=(c_ τ).length/\fp.Nodup/\(∀b∈fp,ei C w H' Φ s'.obj b/\¬ei C w H Φ s.obj b)/\(∀b,ei C w H Φ s.obj b->ei C w H' Φ s'.obj b)/\
   ∀i σ,(c_ τ)[i]? = some σ->∃c,ck[i]? = some c/\c.length=σ.size/\(∀v∈c,v.oneCell'=true)/\match lk dM (n+i)with|some v=>v=j7 σ c|none=>c=σ.zeroCells:=by
 rw[h2]at h
 obtain⟨H',c,fp,k1,k2,k3,k4,k6,k7,k8,k5⟩:=qiZ hparts hs hle hsub hn h
 rw[h1]
 refine⟨H',[c],fp,k1,k2,k3,by simpa using k4,rfl,k6,k7,k8,?_⟩
 intro i σ hi
 match i with
 |0=>
  simp only[List.getElem?_cons_zero,Option.some.injEq]at hi
  subst hi
  exact⟨c,rfl,qm.length _ k4,qm.one _ k4,k5⟩
 |i+1=>simp at hi
theorem ql3{s0:St}{H0:FH}{parts:List (Nat×AV)}{dM:List (Nat×Value)}(hparts:∀n,(lk parts n=none/\lk dM n=none)\/∃av v,lk parts n=some av/\lk dM n=some v/\qi P C w H0 Φ s0.obj av v):
  (τ:Ty)->∀{s:St} {H:FH} {n:Nat} {s':St} {x:τ.den},qh P C s a w H Φ->H0.le H->(∀id o,s.obj id=some o->s0.obj id=some o)->τ.aD=true->QX s parts τ n=some (s',x)->
  ∃(H':FH) (ck:List (List Value)) (fp:List Nat),H.le H'/\qh P C s' a w H' Φ/\(∀id o,s'.obj id=some o->s.obj id=some o)/\qm P τ w H' x ck.flatten fp/\ck.length=(c_ τ).length/\fp.Nodup/\(∀b∈fp,ei C w H' Φ s'.obj b/\¬ei C w H Φ s.obj b)/\(∀b,ei C w H Φ s.obj b->ei C w H' Φ s'.obj b)/\
   ∀i σ,(c_ τ)[i]? = some σ->∃c,ck[i]? = some c/\c.length=σ.size/\(∀v∈c,v.oneCell'=true)/\match lk dM (n+i)with|some v=>v=j7 σ c|none=>c=σ.zeroCells
 |.pair t1 t2,s,H,n,s',x,hs,hle,hsub,hn,h=>by
  simp only[Ty.aD,Bool.and_eq_true]at hn
  unfold QX at h
  split at h
  ·rename_i s1 x1 h1
   split at h
   ·rename_i s2 x2 h2
    cases h
    obtain⟨H1,c,fp1,k1,k2,k3,k4,k6,k7,k8,k5⟩:=qiZ hparts hs hle hsub hn.1 h1
    obtain⟨H2,ck,fp2,m1,m2,m3,m4,m5,m7,m8,m9,m6⟩:=ql3 hparts t2 k2 (FH.le_trans hle k1) (λid o ho=>hsub id o (k3 id o ho)) hn.2 h2
    refine⟨H2,c::ck,fp1++fp2,FH.le_trans k1 m1,m2,λid o ho=>k3 id o (m3 id o ho),⟨c,ck.flatten,fp1,fp2,by simp,rfl,qm.mono _ m1 (λ_ _=>rfl) k4,m4⟩,by simp[c_,m5],?_,?_,λb hb=>m9 b (k8 b hb),?_⟩
    ·rw[List.nodup_append]
     refine⟨k6,m7,?_⟩
     rintro b kG _ cO rfl
     exact(m8 b cO).2 (k7 b kG).1
    ·intro b hb
     rcases List.mem_append.1 hb with hb|hb
     ·exact⟨m9 b (k7 b hb).1,(k7 b hb).2⟩
     ·exact⟨(m8 b hb).1,λhh=>(m8 b hb).2 (k8 b hh)⟩
    ·intro i σ hi
     match i with
     |0=>
      simp only[c_,List.getElem?_cons_zero,Option.some.injEq]at hi
      subst hi
      exact⟨c,rfl,qm.length _ k4,qm.one _ k4,k5⟩
     |i+1=>
      obtain⟨c',q1,q2,q3,q4⟩:=m6 i σ (by simpa[c_]using hi)
      exact⟨c',by simpa using q1,q2,q3,by rw[show n+(i+1)=n+1+i by omega];exact q4⟩
   ·cases h
  ·cases h
 |.int k,_,_,_,_,_,hs,hle,hsub,hn,h=>Hz hparts (.int k) rfl (λ_ _=>rfl) hs hle hsub hn h
 |.bool,_,_,_,_,_,hs,hle,hsub,hn,h=>Hz hparts (.bool) rfl (λ_ _=>rfl) hs hle hsub hn h
 |.list a b c,_,_,_,_,_,hs,hle,hsub,hn,h=>Hz hparts (.list a b c) rfl (λ_ _=>rfl) hs hle hsub hn h
 |.str t,_,_,_,_,_,hs,hle,hsub,hn,h=>Hz hparts (.str t) rfl (λ_ _=>rfl) hs hle hsub hn h
 |.ptr t,_,_,_,_,_,hs,hle,hsub,hn,h=>Hz hparts (.ptr t) rfl (λ_ _=>rfl) hs hle hsub hn h
 |.op t,_,_,_,_,_,hs,hle,hsub,hn,h=>Hz hparts (.op t) rfl (λ_ _=>rfl) hs hle hsub hn h
 |.arr n e,_,_,_,_,_,hs,hle,hsub,hn,h=>Hz hparts (.arr n e) rfl (λ_ _=>rfl) hs hle hsub hn h
 |.fn a b,_,_,_,_,_,hs,hle,hsub,hn,h=>Hz hparts (.fn a b) rfl (λ_ _=>rfl) hs hle hsub hn h
 |.bQ a b c,_,_,_,_,_,hs,hle,hsub,hn,h=>Hz hparts (.bQ a b c) rfl (λ_ _=>rfl) hs hle hsub hn h
theorem qhe{s0:St}{H0:FH}{parts:List (Nat×AV)}{dM:List (Nat×Value)}(hparts:∀n,(lk parts n=none/\lk dM n=none)\/∃av v,lk parts n=some av/\lk dM n=some v/\qi P C w H0 Φ s0.obj av v)
  {e:Ty} (hn:e.aD=true):∀(len:Nat) {s:St} {H:FH} {n:Nat} {s':St} {x:List e.den},qh P C s a w H Φ->H0.le H->(∀id o,s.obj id=some o->s0.obj id=some o)->TV s parts e n len=some (s',x)->
  ∃(H':FH) (ck:List (List Value)),H.le H'/\qh P C s' a w H' Φ/\(∀id o,s'.obj id=some o->s.obj id=some o)/\qd (qm P e w H') x ck.flatten []/\ck.length=len/\x.length=len/\
   ∀i,i<len->∃c,ck[i]? = some c/\c.length=e.size/\(∀v∈c,v.oneCell'=true)/\match lk dM (n+i)with|some v=>v=j7 e c|none=>c=e.zeroCells
 |0,s,H,n,s',x,hs,hle,hsub,h=>by
  cases h
  exact⟨H,[],FH.le_refl _,hs,λ_ _ h=>h,⟨rfl,rfl⟩,rfl,rfl,λi hi=>by omega⟩
 |len+1,s,H,n,s',x,hs,hle,hsub,h=>by
  unfold TV at h
  split at h
  ·rename_i s1 x1 h1
   split at h
   ·rename_i s2 x2 h2
    cases h
    obtain⟨H1,c,k1,k2,k3,k4,_,k5⟩:=ZA hparts hs hle hsub hn h1
    obtain⟨H2,ck,m1,m2,m3,m4,m5,m6,m7⟩:=qhe hparts hn len k2 (FH.le_trans hle k1) (λid o ho=>hsub id o (k3 id o ho)) h2
    refine⟨H2,c::ck,FH.le_trans k1 m1,m2,λid o ho=>k3 id o (m3 id o ho),⟨c,ck.flatten,[],[],by simp,rfl,qm.mono _ m1 (by simp) k4,m4⟩,by simp[m5],by simp[m6],?_⟩
    intro i hi
    match i with
    |0=>exact⟨c,rfl,qm.length _ k4,qm.one _ k4,k5⟩
    |i+1=>
     obtain⟨c',q1,q2,q3,q4⟩:=m7 i (by omega)
     exact⟨c',by simpa using q1,q2,q3,by rw[show n+(i+1)=n+1+i by omega];exact q4⟩
   ·cases h
  ·cases h
theorem Zs(hs:qh P C s a w H Φ):∀(parts:List (Nat×Operand)) {l:List AV},zg s (λ_=>none) (parts.map (·.2)) 0=some l->
  ∀n,(lk ((parts.map (·.1)).zip l) n=none/\lk (parts.map λx=>(x.1,a.eval x.2)) n=none)\/∃av v,lk ((parts.map (·.1)).zip l) n=some av/\lk (parts.map λx=>(x.1,a.eval x.2)) n=some v/\qi P C w H Φ s.obj av v:=by
 intro parts l h
 have hr:=jY hs (λ_=>qy) h
 clear h
 induction parts generalizing l with
 |nil=>intro n;exact .inl ⟨rfl,rfl⟩
 |cons x parts ih=>
  match l,hr with
  |[],hr=>exact hr.elim
  |av::l,hr=>
   intro n
   simp only[List.map_cons,List.zip_cons_cons,jW]
   cases hb:Nat.beq x.1 n with
   |true=>exact .inr ⟨av,_,rfl,rfl,hr.1⟩
   |false=>exact ih hr.2 n
theorem qd6{T:TypeId}{τ:Ty}(a_:qT P T (.str τ)){parts:Array (Nat×Operand)}(hap:apart (parts.toList.map (·.1)) []=true)(hin:(parts.toList.map (·.1)).all (uI τ)=true){ck:List (List Value)}(m5:ck.length=(c_ τ).length)
  (m6:∀i σ,(c_ τ)[i]? = some σ->∃c,ck[i]? = some c/\c.length=σ.size/\(∀v∈c,v.oneCell'=true)/\match lk (parts.toList.map λx=>(x.1,a.eval x.2)) (0+i)with|some v=>v=j7 σ c|none=>c=σ.zeroCells):
  ∃cells',(∀w:World,(Instr.build T (parts.map λx=>(x.1,a.eval x.2))).run P w = .ok (.agg cells') w)/\cells'.toList=ck.flatten:=by
 obtain⟨fs,hu,CB⟩:=a_.str
 obtain⟨k1,k2⟩:=qjn τ CB
 obtain⟨it,hit,hsz,hpos,_,hz⟩:=a_.info
 have Iv:(j7 (.str τ) τ.zeroCells).cells.toList=τ.zeroCells:=rfl
 obtain⟨cells',g1,g2⟩:=qgk (((List.range (c_ τ).length).map λi=>(0+(((c_ τ).take i).map Ty.size).sum,(((c_ τ)[i]?).map Ty.size).getD 0)).toArray[·]?) (parts.toList.map λx=>(x.1,a.eval x.2)) ((c_ τ).map Ty.zeroCells) ck
  (j7 (.str τ) τ.zeroCells).cells (by
   intro i z hi
   rw[List.getElem?_map]at hi
   obtain⟨σ,h1,rfl⟩:=Option.map_eq_some_iff.1 hi
   have hlt:=(List.getElem?_eq_some_iff.1 h1).1
   simp only[List.getElem?_toArray,List.getElem?_map,List.getElem?_range hlt,Option.map_some,Nat.zero_add,h1,Option.getD_some,Option.some.injEq,Prod.mk.injEq]
   refine⟨?_,(Ty.aA σ).symm⟩
   rw[<-List.map_take,List.map_map]
   congr 1
   apply List.map_congr_left
   intro t _
   exact(Ty.aA t).symm)
  (by rw[Iv];exact qjm τ) (by
   rw[List.map_map]
   exact(Kr hap).1)
  (by
   intro x hx
   obtain⟨y,hy,rfl⟩:=List.mem_map.1 hx
   rw[List.length_map]
   exact qn4 τ (List.all_eq_true.1 hin _ (List.mem_map.2 ⟨y,hy,rfl⟩)))
  (by rw[m5,List.length_map]) (by
   intro i c hc
   have hlt:i<(c_ τ).length:=by rw[<-m5];exact(List.getElem?_eq_some_iff.1 hc).1
   obtain⟨c',q1,q2,q3,q4⟩:=m6 i (c_ τ)[i] (List.getElem?_eq_getElem hlt)
   rw[hc]at q1
   cases q1
   rw[List.getElem?_map,List.getElem?_eq_getElem hlt]
   refine⟨λz hz=>?_,?_⟩
   ·simp only[Option.map_some,Option.some.injEq]at hz
    rw[<-hz,Ty.aA,q2]
   ·rw[Nat.zero_add]at q4
    split
    ·rename_i v hv
     rw[hv]at q4
     simp only at q4
     obtain⟨t,ht⟩:=k1 (c_ τ)[i] (List.getElem_mem hlt)
     rw[q4]
     exact Bc (by rintro x y e;rw[e]at ht;exact ht.bT) q2 q3
    ·rename_i hv
     rw[hv]at q4
     simp only at q4
     rw[q4];rfl)
 refine⟨cells',λw=>?_,g2⟩
 refine run_build w T _ cells' ?_
 unfold Program.built
 rw[hit,hu]
 simp only[hz,k2,Array.toList_map]
 exact g1
theorem Bw(ae:qx P aa)(hC:qD C aa){T:TypeId}{parts:Array (Nat×Operand)}(hs:qh P C s a w H Φ)(hd:qK aa.nt dst=true)(h:qM aa ⟨dst,.build T parts,ty,pos,after,guard⟩ s k=some r):
  ∃s',k s'=some r/\fG P C ⟨dst,.build T parts,ty,pos,after,guard⟩ a w s':=by
 simp only[qM]at h
 split at h
 ·rename_i τ σ l fc hT hl
  split at h
  case h_2=>cases h
  rename_i d
  cases zw:τ.de&&(!τ.aD&&(parts.toList.isEmpty&&decide ((Ty.str τ).fz=σ)))with
  |true=>
   rw[zw,cond_true]at h
   simp only[Bool.and_eq_true,Bool.not_eq_true',List.isEmpty_iff]at zw
   obtain⟨hz,_,hpe,hfz⟩:=zw
   have hfz:=of_decide_eq_true hfz
   subst hfz
   have a_:=qT.gw (τ:=.str τ) (ae.ty T _ hT).1
   obtain⟨cells',hrun,hcells⟩:=qd6 (P:=P) (a:=a) (parts:=parts) a_ (by rw[hpe];rfl) (by rw[hpe];rfl) (ck:=(c_ τ).map Ty.zeroCells) (by simp) (λi σ rZ=>⟨σ.zeroCells,by rw[List.getElem?_map,rZ];rfl,Ty.aA σ,Ty.dm σ,by rw[hpe];rfl⟩)
   have dK:d<C.nt:=by rw[hC.nt];exact Eq.mp Nat.blt_eq hd
   have hd2:d<4000000:=Nat.lt_of_lt_of_le dK (by rw[hC.nt];exact Nat.le_trans ae.small (by decide))
   have hno:=hs.newObj (jO.refl _ _) (hC.gQ d (Nat.lt_trans hd2 (by decide))) (uE hd2) (row:=true) (τ:=.str τ) (x:=τ.zero) (φ:=⟨0,.agg cells',[]⟩)
    ⟨Ty.eG τ hz,List.nodup_nil,rfl,((c_ τ).map Ty.zeroCells).flatten,by show _=Value.agg _;rw[<-hcells],by rw[<-qjm];exact qm.de τ hz⟩ (λb hb=>by cases hb)
   refine⟨_,h,.agg cells',λw' _=>?_,⟨H,_,hno.set dK (v:=.agg cells') ⟨⟨true,.str τ,τ.zero⟩,⟨.str τ,τ.zero⟩,?_,qO _ _,?_⟩⟩⟩
   ·simp[execOp,hrun]
   ·rw[St.newObj,St.ak,if_pos rfl]
   ·simp only[List.isEmpty_nil,Bool.and_self,qt]
  |false=>
  rw[zw,cond_false]at h
  cases hq:τ.aD&&decide ((Ty.str τ).fz=σ)&&apart (parts.toList.map (·.1)) []&&(parts.toList.map (·.1)).all (uI τ)with
  |false=>rw[hq]at h;cases h
  |true=>
  rw[hq,cond_true]at h
  simp only[Bool.and_eq_true]at hq
  obtain⟨⟨⟨hn,hfz⟩,hap⟩,hin⟩:=hq
  have hfz:=of_decide_eq_true hfz
  subst hfz
  split at h
  case h_2=>cases h
  rename_i s1 x1 hm
  have a_:=qT.gw (τ:=.str τ) (ae.ty T _ hT).1
  obtain⟨H1,ck,fp,m1,m2,m3,m4,m5,m7,m8,m9,m6⟩:=ql3 (Zs hs parts.toList hl) τ hs (FH.le_refl _) (λ_ _ h=>h) hn hm
  obtain⟨cells',hrun,hcells⟩:=qd6 a_ hap hin m5 m6
  have dK:d<C.nt:=by rw[hC.nt];exact Eq.mp Nat.blt_eq hd
  have hd2:d<4000000:=Nat.lt_of_lt_of_le dK (by rw[hC.nt];exact Nat.le_trans ae.small (by decide))
  have hno:=m2.newObj (jO.refl _ _) (hC.gQ d (Nat.lt_trans hd2 (by decide))) (uE hd2) (row:=true) (τ:=.str τ) (x:=x1) (φ:=⟨0,.agg cells',fp⟩)
   ⟨Ty.bI τ hn,m7,rfl,ck.flatten,by show _=Value.agg _;rw[<-hcells],m4⟩ (λb hb=>⟨(m8 b hb).1.fz,(m8 b hb).1.may,(m8 b hb).1.lt,λj o' _ hj=>(m8 b hb).1.obj j o' hj⟩)
  refine⟨_,h,.agg cells',λw' _=>?_,⟨H1,_,hno.set dK (v:=.agg cells') ⟨⟨true,.str τ,x1⟩,⟨.str τ,x1⟩,?_,qO _ _,?_⟩⟩⟩
  ·simp[execOp,hrun]
  ·rw[St.newObj,St.ak,if_pos rfl]
  ·simp only[List.isEmpty_nil,Bool.and_self,qt]
 ·rename_i τ l fc hT hl
  cases hq:τ.aD&&apart (parts.toList.map (·.1)) []&&(parts.toList.map (·.1)).all (uI τ)with
  |false=>rw[hq]at h;cases h
  |true=>
  rw[hq,cond_true]at h
  simp only[Bool.and_eq_true]at hq
  obtain⟨⟨hn,hap⟩,hin⟩:=hq
  split at h
  case h_2=>cases h
  rename_i s1 x1 hm
  obtain⟨a_,hfz⟩:=ae.ty T _ hT
  obtain⟨H1,ck,m1,m2,m3,m4,m5,m6⟩:=ql5 (Zs hs parts.toList hl) τ hs (FH.le_refl _) (λ_ _ h=>h) hn hm
  obtain⟨cells',hrun,hcells⟩:=qd6 a_ hap hin m5 m6
  refine⟨_,h,(.agg cells'),λw' _=>?_,⟨H1,Φ,m2.ah (by rw[hC.nt];exact hd) ⟨hfz,ck.flatten,?_,m4⟩⟩⟩
  ·simp[execOp,hrun]
  ·show _=Value.agg _
   rw[<-hcells]
 ·rename_i len e l fc hT hl
  cases hq:e.aD&&apart (parts.toList.map (·.1)) []&&(parts.toList.map (·.1)).all (λi=>Nat.blt i len)with
  |false=>rw[hq]at h;cases h
  |true=>
  rw[hq,cond_true]at h
  simp only[Bool.and_eq_true]at hq
  obtain⟨⟨hn,hap⟩,hin⟩:=hq
  split at h
  case h_2=>cases h
  rename_i s1 x1 hm
  obtain⟨a_,hfz⟩:=ae.ty T _ hT
  obtain⟨u,hu,he⟩:=a_.arr
  obtain⟨it,hit,_,_,_,hzt⟩:=a_.info
  obtain⟨ie,hie,hsz,_,_,_⟩:=he.info
  have hnp:∀x y,e≠.pair x y:=by rintro x y rfl;exact he.bT
  obtain⟨H1,ck,m1,m2,m3,m4,m5,m6,m7⟩:=qhe (Zs hs parts.toList hl) hn len hs (FH.le_refl _) (λ_ _ h=>h) hm
  have Iv:(j7 (.arr len e) (Ty.arr len e).zeroCells).cells.toList=(List.replicate len e.zeroCells).flatten:=rfl
  obtain⟨cells',g1,g2⟩:=qgk (λi=>some (i*e.size,e.size)) (parts.toList.map λx=>(x.1,a.eval x.2)) (List.replicate len e.zeroCells) ck
   (j7 (.arr len e) (Ty.arr len e).zeroCells).cells (by
    intro i z hi
    have hlt:=(List.getElem?_eq_some_iff.1 hi).1
    rw[List.length_replicate]at hlt
    obtain rfl:e.zeroCells=z:=by simpa[List.getElem?_replicate,hlt]using hi
    have hmin:min i len=i:=by omega
    simp only[List.take_replicate,hmin,List.map_replicate,List.sum_replicate_nat,Ty.aA])
   Iv (by
    rw[List.map_map]
    exact(Kr hap).1)
   (by
    intro x hx
    obtain⟨y,hy,rfl⟩:=List.mem_map.1 hx
    rw[List.length_replicate]
    exact Eq.mp Nat.blt_eq (List.all_eq_true.1 hin _ (List.mem_map.2 ⟨y,hy,rfl⟩)))
   (by rw[m5,List.length_replicate]) (by
    intro i c hc
    have hlt:i<len:=by rw[<-m5];exact(List.getElem?_eq_some_iff.1 hc).1
    obtain⟨c',q1,q2,q3,q4⟩:=m7 i hlt
    rw[hc]at q1
    cases q1
    have an:(List.replicate len e.zeroCells)[i]? = some e.zeroCells:=by simp[hlt]
    rw[an]
    refine⟨λz hz=>?_,?_⟩
    ·simp only[Option.some.injEq]at hz
     rw[<-hz,Ty.aA,q2]
    ·rw[Nat.zero_add]at q4
     split
     ·rename_i v hv
      rw[hv]at q4
      simp only at q4
      rw[q4]
      exact Bc hnp q2 q3
     ·rename_i hv
      rw[hv]at q4
      simp only at q4
      rw[q4])
  have hrun:∀w:World,(Instr.build T (parts.map λx=>(x.1,a.eval x.2))).run P w = .ok (.agg cells') w:=by
   intro w
   refine run_build w T _ cells' ?_
   unfold Program.built
   rw[hit,hu]
   simp only[hzt,hie,hsz,Array.toList_map]
   exact g1
  refine⟨_,h,(.agg cells'),λw' _=>?_,⟨H1,Φ,m2.ah (by rw[hC.nt];exact hd) ⟨hfz,ck.flatten,?_,m6,?_⟩⟩⟩
  ·simp[execOp,hrun]
  ·show _=Value.agg _
   rw[<-g2]
  ·exact m4
 ·cases h
theorem qnc(ae:qx P aa)(hC:qD C aa){T:TypeId}{len tid:Nat}{t:Ty}{parts:Array (Nat×Operand)}(hs:qh P C s a w H Φ)(hd:qK aa.nt dst=true)(h:qjC s dst (lk aa.ty T) tid t len parts.toList k=some r):
  ∃s',k s'=some r/\ew P C ⟨dst,.buildSlice T len parts,ty,pos,after,guard⟩ a w s':=by
 unfold qjC at h
 cases h
theorem BP(ae:qx P aa){T:TypeId}{own:Bool}{tid:TypeId}{e:Ty}(h:BQ aa T=some (.list own tid e)):P.underlying T=some (.slice tid)/\qT P tid e/\e.ay=true:=by
 unfold BQ at h
 split at h
 ·rename_i t _ hT
  split at h
  case h_2=>cases h
  rename_i e' he
  cases h
  exact⟨(ae.ty T _ hT).1.LH (by decide),ae.ty tid _ he⟩
 ·obtain⟨h1,h2⟩:=ae.ty T _ h
  simp only[Ty.ay,Bool.and_eq_true]at h2
  exact⟨h1.list.1,h1.list.2,h2.2⟩
theorem qjR(ae:qx P aa)(hC:qD C aa){T:TypeId}{len:Nat}{parts:Array (Nat×Operand)}(hs:qh P C s a w H Φ)(hd:qK aa.nt dst=true)(h:qM aa ⟨dst,.buildSlice T len parts,ty,pos,after,guard⟩ s k=some r):
  ∃s',k s'=some r/\ew P C ⟨dst,.buildSlice T len parts,ty,pos,after,guard⟩ a w s':=by
 simp only[qM]at h
 split at h
 ·exact qnc ae hC hs hd h
 rename_i fc
 clear fc
 split at h
 case h_2=>cases h
 rename_i d own tid e l hT hl
 cases hq:e.aD&&Nat.ble (len*e.size) 16777216&&apart (parts.toList.map (·.1)) []&&(parts.toList.map (·.1)).all (λi=>Nat.blt i len)with
 |false=>rw[hq]at h;cases h
 |true=>
 rw[hq,cond_true]at h
 simp only[Bool.and_eq_true]at hq
 obtain⟨⟨⟨hn,oK⟩,hap⟩,hin⟩:=hq
 have oK:=Nat.le_of_ble_eq_true oK
 split at h
 case h_2=>cases h
 rename_i s1 x1 hm
 obtain⟨hu,he,abt⟩:=BP ae hT
 obtain⟨ie,hie,hsz,hpos,hby,hz⟩:=he.info
 have hnp:∀x y,e≠.pair x y:=by rintro x y rfl;exact he.bT
 obtain⟨H1,ck,m1,m2,m3,m4,m5,m6,m7⟩:=qhe (Zs hs parts.toList hl) hn len hs (FH.le_refl _) (λ_ _ h=>h) hm
 have Iv:(j7 e e.zeroCells).cells.toList=e.zeroCells:=Bc hnp (Ty.aA e) (Ty.dm e)
 have hzs:(j7 e e.zeroCells).cells.size=e.size:=by rw[<-Array.length_toList,Iv,Ty.aA]
 have hml:((Array.range (len*e.size)).map ((j7 e e.zeroCells).cells[· % (j7 e e.zeroCells).cells.size]!)).toList=(List.replicate len e.zeroCells).flatten:=by
  have:=qhg (j7 e e.zeroCells).cells (by omega) len
  rw[hzs,Iv]at this
  rw[<-this,hzs]
  simp[madeCells,hzs]
 obtain⟨cells',g1,g2⟩:=qgk (λi=>some (i*e.size,e.size)) (parts.toList.map λx=>(x.1,a.eval x.2)) (List.replicate len e.zeroCells) ck
  ((Array.range (len*e.size)).map ((j7 e e.zeroCells).cells[· % (j7 e e.zeroCells).cells.size]!)) (by
   intro i z hi
   have hlt:=(List.getElem?_eq_some_iff.1 hi).1
   rw[List.length_replicate]at hlt
   obtain rfl:e.zeroCells=z:=by simpa[List.getElem?_replicate,hlt]using hi
   have hmin:min i len=i:=by omega
   simp only[List.take_replicate,hmin,List.map_replicate,List.sum_replicate_nat,Ty.aA])
  hml (by
   rw[List.map_map]
   exact(Kr hap).1)
  (by
   intro x hx
   obtain⟨y,hy,rfl⟩:=List.mem_map.1 hx
   rw[List.length_replicate]
   exact Eq.mp Nat.blt_eq (List.all_eq_true.1 hin _ (List.mem_map.2 ⟨y,hy,rfl⟩)))
  (by rw[m5,List.length_replicate]) (by
   intro i c hc
   have hlt:i<len:=by rw[<-m5];exact(List.getElem?_eq_some_iff.1 hc).1
   obtain⟨c',q1,q2,q3,q4⟩:=m7 i hlt
   rw[hc]at q1
   cases q1
   have an:(List.replicate len e.zeroCells)[i]? = some e.zeroCells:=by simp[hlt]
   rw[an]
   refine⟨λz hz=>?_,?_⟩
   ·simp only[Option.some.injEq]at hz
    rw[<-hz,Ty.aA,q2]
   ·rw[Nat.zero_add]at q4
    split
    ·rename_i v hv
     rw[hv]at q4
     simp only at q4
     rw[q4]
     exact Bc hnp q2 q3
    ·rename_i hv
     rw[hv]at q4
     simp only at q4
     rw[q4])
 have hrun:(Instr.buildSlice T len (parts.map λx=>(x.1,a.eval x.2))).run P w = .ok (.slice (some ⟨w.heap.size,0,none⟩) len len) (w.alloc (.cells cells' tid)):=by
  by_cases hl0:len=0
  ·subst hl0
   have hp:parts = #[]:=by
    rw[<-Array.toArray_toList (xs:=parts)]
    match eR:parts.toList,hin with
    |[],_=>rfl
    |x::r,hin=>simp[Nat.blt]at hin
   subst hp
   have:cells' = #[]:=by
    rw[<-Array.toArray_toList (xs:=cells'),g2,List.eq_nil_of_length_eq_zero m5];rfl
   subst this
   have e0:∀f:Nat->Value,Array.map f (Array.range 0) = #[]:=λf=>Array.eq_empty_of_size_eq_zero (by simp)
   simp[Instr.buildSlice,run_underlying hu,sizeOf,typeInfo,hie,Instr.fill,newRow,e0]
  ·refine run_buildSlice w T tid len _ cells' ie _ hu hie hz (by rw[hsz];omega) ?_ ?_
   ·rw[hsz]
    have:=Nat.mul_pos (Nat.pos_of_ne_zero hl0) hpos
    omega
   ·rw[hsz,Array.toList_map];exact g1
 have hsize:cells'.size=len*e.size:=by
  rw[<-Array.length_toList,g2,qd.length (λ_ _ _ hh=>qm.length e hh) m4,m6]
 have sg:=Ko w (.cells cells' tid)
 obtain⟨aU,h4⟩:=m2.newRow (w':=w.alloc (.cells cells' tid)) (tid:=tid) (e:=e) (l:=x1) (v:=.slice (some ⟨w.heap.size,0,none⟩) len len) (xs:=ck.flatten) ae hC (Eq.mp Nat.blt_eq hd) (Nat.lt_trans (ae.low (Eq.mp Nat.blt_eq hd)) (by decide)) (uE (ae.low (Eq.mp Nat.blt_eq hd))) hn sg
  ⟨by rw[qd.length (λ_ _ _ hh=>qm.length e hh) m4],.inr ⟨w.heap.size,len,cells',by rw[m6],Nat.zero_le _,heap_alloc_new w _,by omega,by
   have:=Nat.mul_le_mul_left len (show 1<=e.size from hpos)
   unfold maxLen;omega,hsize,by rw[m6,g2,List.take_of_length_le];rw[qd.length (λ_ _ _ hh=>qm.length e hh) m4,m6];exact Nat.le_refl _⟩⟩
  (qd.mono (λ_ _ _ hh=>by
   have nF:=qm.dg e abt hh
   subst nF
   exact qm.mono e (FH.le_refl _) (by simp) hh) m4)
  (by intro b hb;simp only[Value.ownBlock,Option.some.injEq]at hb;subst hb;exact⟨Nat.le_refl _,by simp⟩)
 refine⟨_,h,pW (w':=w.alloc (.cells cells' tid)) (v:=.slice (some ⟨w.heap.size,0,none⟩) len len) ?_ ⟨H1,aU,h4⟩⟩
 simp[execOp,hrun]
end
end Go.Vi
namespace Go.Vi
section
variable {P:Program} {C:cM} {aa:jB} {R:Type} {r:R} {s:St} {a:Act} {w:World} {H:FH} {Φ:Nat->qH} {dst:Option Nat} {ty:TypeId} {pos:String} {after:Array Edge} {guard:Option (Nat×Bool)} {k:St->Option R}
def GG(w:World)(Hf:FH)(Φ:Nat->qH)(os:Nat->Option Obj)(ids:List Nat):Prop:=
 ∀id∈ids,∀o,os id=some o->∀b∈(Φ id).fp,∀c:FB,c.At w b->Hf b=some c
def DQ(P:Program)(C:cM)(w:World)(H:FH)(Φ:Nat->qH)(os:Nat->Option Obj)(w':World)(H':FH)(av:AV)(v:Value):Prop:=
 qi P C w H Φ os av v\/∃τ x cs,av = .val τ x/\τ.ay=true/\v=j7 τ cs/\qm P τ w' H' x cs []
def uk(P:Program)(w:World)(H:FH)(τ:Ty)(x:τ.den)(v:Value):Prop:=∃cs,v=j7 τ cs/\qm P τ w H x cs []
def xL(P:Program)(w:World)(H:FH)(τ:Ty)(x:τ.den)(v:Value):Prop:=∃b o blk,v = .pointer (some ⟨b,o,none⟩)/\H b=some (.cells blk)/\qm P τ w H x (ct blk o τ.size) []
theorem uk.mono{w w':World}{H H':FH}(hH:H.le H'){τ:Ty}{x:τ.den}{v:Value}(h:uk P w H τ x v):uk P w' H' τ x v:=by
 obtain⟨cs,h1,h2⟩:=h
 exact⟨cs,h1,qm.mono _ hH (by simp) h2⟩
theorem xL.mono{w w':World}{H H':FH}(hH:H.le H'){τ:Ty}{x:τ.den}{v:Value}(h:xL P w H τ x v):xL P w' H' τ x v:=by
 obtain⟨b,o,blk,h1,h2,h3⟩:=h
 exact⟨b,o,blk,h1,hH _ _ h2,qm.mono _ hH (by simp) h3⟩
theorem xL.ptr{w:World}{H:FH}{τ:Ty}{x:τ.den}{v:Value}(h:xL P w H τ x v):uk P w H (.ptr τ) (some x) v:=by
 obtain⟨b,o,blk,h1,h2,h3⟩:=h
 exact⟨[v],rfl,rfl,b,o,blk,by rw[h1],h2,h3⟩
theorem ME(hs:qh P C s a w H Φ){Hf:FH}(hle:H.le Hf){w':World}{H':FH}(hle':Hf.le H'){av:AV}{v:Value}(hf:GG w Hf Φ s.obj av.aK)(hr:DQ P C w H Φ s.obj w' H' av v){τ:Ty}{kk:τ.den->Option R}(h:pU s av τ kk=some r):
  τ.ay=true/\∃x,kk x=some r/\uk P w' H' τ x v:=by
 rcases hr with hr|⟨σ,x,cs,rfl,hfz,hv,an⟩
 ·unfold pU at h
  split at h
  ·rw[qj]at h
   replace h:=Option.bind_eq_some_iff.1 h
   obtain⟨y,hy,h⟩:=h
   obtain⟨e,hy⟩:=qg hy
   subst e
   subst hy
   obtain⟨hfz,cs,hv,an⟩:=hr
   exact⟨hfz,_,h,cs,hv,qm.mono _ (FH.le_trans hle hle') (by simp) an⟩
  ·rename_i id p
   split at h
   case h_2=>cases h
   rename_i o ho
   rw[jJ]at h
   replace h:=Option.bind_eq_some_iff.1 h
   obtain⟨y,hy,h⟩:=h
   rw[qj]at h
   replace h:=Option.bind_eq_some_iff.1 h
   obtain⟨z,hz,h⟩:=h
   obtain⟨e,hz⟩:=qg hz
   subst e
   subst hz
   have hok:=(hs.os id o ho).1
   obtain⟨cs,fp,hv,an,hsub,_⟩:=wA hr ho hok hy
   refine⟨Ty.bY _,_,h,cs,by rw[TL];exact hv,?_⟩
   exact qm.eD y.1 (Gl _ hok.1 hy) w' (FH.le_trans hle hle') (λb hb c hc=>hle' _ _ (hf id (by simp[AV.aK]) o ho b (hsub b hb) c hc)) an _
  ·rename_i σ x
   rw[qj]at h
   replace h:=Option.bind_eq_some_iff.1 h
   obtain⟨y,hy,h⟩:=h
   obtain⟨e,hy⟩:=qg hy
   subst e
   subst hy
   obtain⟨hfz,hr⟩:=hr
   exact⟨by simpa[Ty.ay]using hfz,_,h,xL.ptr (xL.mono (FH.le_trans hle hle') hr)⟩
  ·rename_i id p
   split at h
   case h_2=>cases h
   rename_i o ho
   cases hrow:o.row with
   |true=>rw[hrow]at h;cases h
   |false=>
   rw[hrow,cond_false]at h
   split at h
   case h_2=>cases h
   rename_i y hy
   rw[qj]at h
   replace h:=Option.bind_eq_some_iff.1 h
   obtain⟨z,hz,h⟩:=h
   obtain⟨e,hz⟩:=qg hz
   subst e
   subst hz
   have:=qi.frozen (H':=Hf) (os':=s.obj) ho hle (hf id (by simp[AV.aK]) o ho) (λj o hj=>(hs.os j o hj).1) (λ_ _ _ h=>h) _ _ hr
   simp only[AV.frozen,Nat.beq_refl,cond_true,hrow,cond_false,hy]at this
   obtain⟨hfz,this⟩:=this
   exact⟨by simpa[Ty.ay]using hfz,_,h,xL.ptr (xL.mono hle' this)⟩
  ·cases h
 ·simp only[pU,qj]at h
  replace h:=Option.bind_eq_some_iff.1 h
  obtain⟨y,hy,h⟩:=h
  obtain⟨e,hy⟩:=qg hy
  subst e
  subst hy
  exact⟨hfz,_,h,cs,hv,an⟩
theorem qhG(hs:qh P C s a w H Φ){Hf:FH}(hle:H.le Hf){w':World}{H':FH}(hle':Hf.le H'){av:AV}{v:Value}(hf:GG w Hf Φ s.obj av.aK)(hr:DQ P C w H Φ s.obj w' H' av v){τ:Ty}{kk:τ.den->Option R}(h:YY s av τ kk=some r):
  τ.ay=true/\∃x,kk x=some r/\xL P w' H' τ x v:=by
 unfold YY at h
 split at h
 ·rw[qj]at h
  replace h:=Option.bind_eq_some_iff.1 h
  obtain⟨y,hy,h⟩:=h
  obtain⟨e,hy⟩:=qg hy
  subst e
  subst hy
  rcases hr with hr|⟨_,_,_,he,_⟩
  ·obtain⟨hfz,hr⟩:=hr
   exact⟨hfz,_,h,xL.mono (FH.le_trans hle hle') hr⟩
  ·cases he
 ·rename_i id p
  split at h
  case h_2=>cases h
  rename_i o ho
  cases hrow:o.row with
  |true=>rw[hrow]at h;cases h
  |false=>
  rw[hrow,cond_false]at h
  split at h
  case h_2=>cases h
  rename_i y hy
  rw[qj]at h
  replace h:=Option.bind_eq_some_iff.1 h
  obtain⟨z,hz,h⟩:=h
  obtain⟨e,hz⟩:=qg hz
  subst e
  subst hz
  rcases hr with hr|⟨_,_,_,he,_⟩
  ·have:=qi.frozen (H':=Hf) (os':=s.obj) ho hle (hf id (by simp[AV.aK]) o ho) (λj o hj=>(hs.os j o hj).1) (λ_ _ _ h=>h) _ _ hr
   simp only[AV.frozen,Nat.beq_refl,cond_true,hrow,cond_false,hy]at this
   obtain⟨hfz,this⟩:=this
   exact⟨hfz,_,h,xL.mono hle' this⟩
  ·cases he
 ·rename_i σ x
  rw[qj]at h
  replace h:=Option.bind_eq_some_iff.1 h
  obtain⟨x2,hx2,h⟩:=h
  subst hx2
  rw[qj]at h
  replace h:=Option.bind_eq_some_iff.1 h
  obtain⟨y,hy,h⟩:=h
  obtain⟨e,hy⟩:=qg hy
  subst e
  subst hy
  have hv:σ.ay=true/\uk P w' H' (.ptr σ) (some y) v:=by
   rcases hr with hr|⟨τ',x',cs,he,hfz,hv,an⟩
   ·obtain⟨hfz,cs,hv,an⟩:=hr
    exact⟨by simpa[Ty.ay]using hfz,cs,hv,qm.mono _ (FH.le_trans hle hle') (by simp) an⟩
   ·cases he
    exact⟨by simpa[Ty.ay]using hfz,cs,hv,an⟩
  obtain⟨hfz,cs,hv,_,b,o,blk,e1,e2,e3⟩:=hv
  exact⟨hfz,_,h,b,o,blk,by rw[hv,e1];rfl,e2,e3⟩
 ·cases h
def qA:qH:=⟨0,.nilFunc,[]⟩
theorem Zb(hs:qh P C s a w H Φ){Hf:FH}(hle:H.le Hf){w':World}{H':FH}(hle':Hf.le H'):
  ∀{ps:List j3} {l:List AV} {vs:List Value} {kk:aI ps->Option R},ps.all j3.reads=true->(∀av∈l,GG w Hf Φ s.obj av.aK)->dl (DQ P C w H Φ s.obj w' H') l vs->Mj s ps l kk=some r->
   ∃d,kk d=some r/\∃ai,jU P w' H' ps d vs ai/\qc ai=[]
 |[],l,vs,kk,_,_,hrel,h=>by
  match l,vs,hrel with
  |[],[],_=>exact⟨(),h,[],⟨rfl,rfl⟩,rfl⟩
  |_::_,_,hrel=>cases h
 |.v τ::ps,l,vs,kk,hp,hf,hrel,h=>by
  match l,vs,hrel with
  |[],_,_=>cases h
  |av::l,v::vs,hrel=>
   simp only[Mj]at h
   obtain⟨hfz,x,h,hv⟩:=ME hs hle hle' (hf av (by simp)) hrel.1 h
   obtain⟨d,h,ai,h2,h3⟩:=Zb hs hle hle' (by simpa[j3.reads]using hp) (λav ha=>hf av (by simp[ha])) hrel.2 h
   exact⟨(x,d),h,qA::ai,⟨v,vs,qA,ai,rfl,rfl,hfz,rfl,hv,h2⟩,by simpa[qc,qA]using h3⟩
  |_::_,[],hrel=>exact hrel.elim
 |.r τ::ps,l,vs,kk,hp,hf,hrel,h=>by
  match l,vs,hrel with
  |[],_,_=>cases h
  |av::l,v::vs,hrel=>
   simp only[Mj]at h
   obtain⟨hfz,x,h,hv⟩:=qhG hs hle hle' (hf av (by simp)) hrel.1 h
   obtain⟨d,h,ai,h2,h3⟩:=Zb hs hle hle' (by simpa[j3.reads]using hp) (λav ha=>hf av (by simp[ha])) hrel.2 h
   exact⟨(x,d),h,qA::ai,⟨v,vs,qA,ai,rfl,rfl,hfz,rfl,hv,h2⟩,by simpa[qc,qA]using h3⟩
  |_::_,[],hrel=>exact hrel.elim
 |.c _::_,_,_,_,hp,_,_,_=>by simp[j3.reads]at hp
 |.m _::_,_,_,_,hp,_,_,_=>by simp[j3.reads]at hp
 |.mr _ _::_,_,_,_,hp,_,_,_=>by simp[j3.reads]at hp
 |.t _ _::_,_,_,_,hp,_,_,_=>by simp[j3.reads]at hp
 |.gm _::_,_,_,_,hp,_,_,_=>by simp[j3.reads]at hp
 |.cm _ _::_,_,_,_,hp,_,_,_=>by simp[j3.reads]at hp
theorem dl.append{α β:Type}{Q:α->β->Prop}:∀{l1:List α} {r1:List β} {l2 r2},dl Q l1 r1->dl Q l2 r2->dl Q (l1++l2) (r1++r2)
 |[],[],_,_,_,h=>h
 |_::_,_::_,_,_,h1,h2=>⟨h1.1,dl.append h1.2 h2⟩
 |[],_::_,_,_,h1,_=>h1.elim
 |_::_,[],_,_,h1,_=>h1.elim
theorem dl.imp{α β:Type}{Q S:α->β->Prop}(h:∀x y,Q x y->S x y):∀{l:List α} {r:List β},dl Q l r->dl S l r
 |[],[],_=>trivial
 |_::_,_::_,h1=>⟨h _ _ h1.1,dl.imp h h1.2⟩
 |[],_::_,h1=>h1.elim
 |_::_,[],h1=>h1.elim
theorem sN{os:Nat->Option Obj}:∀{av:AV} {vs:List Value},av.aY=true->qi P C w H Φ os av (.tuple vs.toArray)->dl (qi P C w H Φ os) av.list vs
 |.nil,vs,_,h=>by
  have:vs=[]:=by simpa[qi]using h
  subst this;trivial
 |.cons a b,vs,ht,h=>by
  obtain⟨u,us,h1,h2,h3⟩:=h
  obtain rfl:vs=u::us:=by simpa using h1
  exact⟨h2,sN (by simpa[AV.aY]using ht) h3⟩
 |.dead,_,ht,_=>by cases ht
 |.val _ _,_,ht,_=>by cases ht
 |.ref _ _,_,ht,_=>by cases ht
 |.ptr _ _,_,ht,_=>by cases ht
 |.view _ _,_,ht,_=>by cases ht
 |.d_ _ _ _ _ _,_,ht,_=>by cases ht
 |.cut _ _ _ _,_,ht,_=>by cases ht
 |.fn _ _ _,_,ht,_=>by cases ht
 |.gh _ _,_,ht,_=>by cases ht
 |.cv _ _ _,_,ht,_=>by cases ht
theorem UF{id:Nat}:∀{av:AV},av.aY=true->∀x∈av.list,id∈x.aK->id∈av.aK
 |.nil,_,x,hx,_=>by simp[AV.list]at hx
 |.cons a b,ht,x,hx,hi=>by
  simp only[AV.aK,List.mem_append]
  rcases List.mem_cons.1 hx with rfl|hx
  ·exact .inl hi
  ·exact .inr (UF (by simpa[AV.aY]using ht) x hx hi)
 |.dead,ht,_,_,_=>by cases ht
 |.val _ _,ht,_,_,_=>by cases ht
 |.ref _ _,ht,_,_,_=>by cases ht
 |.ptr _ _,ht,_,_,_=>by cases ht
 |.view _ _,ht,_,_,_=>by cases ht
 |.d_ _ _ _ _ _,ht,_,_,_=>by cases ht
 |.cut _ _ _ _,ht,_,_,_=>by cases ht
 |.fn _ _ _,ht,_,_,_=>by cases ht
 |.gh _ _,ht,_,_,_=>by cases ht
 |.cv _ _ _,ht,_,_,_=>by cases ht
theorem qkd{r:Ty}{rs:List fk}{d:bH rs}{y:r.den}(h:YC r rs d=some y){w:World}{H:FH}{us:List Value}{aJ:List qH}(hr:gv P w H rs d us aJ):∃cs,oD us=j7 r cs/\qm P r w H y cs []:=by
 unfold YC at h
 split at h
 ·rename_i τ d'
  obtain⟨e,hy⟩:=qg h
  subst e
  subst hy
  obtain⟨v,vs',φ,ag,rfl,_,_,_,⟨cs,hv,an⟩,rfl,_⟩:=hr
  exact⟨cs,hv,an⟩
 ·cases h
theorem qkY{w w':World}{ai:List qH}(h:qc ai=[])(hm:jO (· ∈qc ai) w w'):jO jA w w':=hm.mono (λi hi=>by rw[h]at hi;cases hi)
theorem Dz(ae:qx P aa)(hs:qh P C s a w H Φ){Hf:FH}(hle:H.le Hf){f:Nat}{first aG:AV}{vs us:Array Value}(kC:qi P C w H Φ s.obj first (.tuple vs))(fh:qi P C w H Φ s.obj aG (.tuple us))
  (hf:GG w Hf Φ s.obj (first.aK++aG.aK)) {b r:Ty} (hb:b.ay=true) {x:b.den} {y:r.den} (h:DA aa s f first aG b r x=some y)
  {H':FH} {w':World} {cx:List Value} (hle':Hf.le H') (cD:cI H' w') (hx:qm P b w' H' x cx []):
  Calls P f (vs ++ #[j7 b cx]++us) w' λe w''=>∃cy,e = .returned (j7 r cy)/\jO jA w' w''/\qm P r w'' H' y cy []:=by
 unfold DA at h
 split at h
 case h_2=>cases h
 rename_i p hp
 obtain⟨_,dD⟩:=ae.b_ f p hp
 cases hq:p.ps.all j3.reads&&r.az&&first.aY&&aG.aY with
 |false=>rw[hq]at h;cases h
 |true=>
 rw[hq,cond_true]at h
 simp only[Bool.and_eq_true]at hq
 obtain⟨⟨⟨hps,hrf⟩,ht1⟩,ht2⟩:=hq
 have l1:=sN (vs:=vs.toList) ht1 (by simpa using kC)
 have l2:=sN (vs:=us.toList) ht2 (by simpa using fh)
 have hrel:dl (DQ P C w H Φ s.obj w' H') (first.list ++ .val b x::aG.list) (vs.toList++j7 b cx::us.toList):=
  dl.append (dl.imp (λ_ _ h=>.inl h) l1) ⟨.inr ⟨b,x,cx,rfl,hb,rfl,hx⟩,dl.imp (λ_ _ h=>.inl h) l2⟩
 obtain⟨d,h,ai,hargs,cn⟩:=Zb hs hle hle' hps (by
  intro av vy id aF
  rcases List.mem_append.1 vy with h1|h1
  ·exact hf id (List.mem_append.2 (.inl (UF ht1 av h1 aF)))
  ·rcases List.mem_cons.1 h1 with rfl|h1
   ·cases aF
   ·exact hf id (List.mem_append.2 (.inr (UF ht2 av h1 aF)))) hrel h
 rw[qj]at h
 replace h:=Option.bind_eq_some_iff.1 h
 obtain⟨y',hy',h⟩:=h
 have hc:=dD d y' hy' w' H' _ ai cD hargs (by rw[cn];simp) (by rw[cn];simp)
 have e:(vs.toList++j7 b cx::us.toList).toArray=vs ++ #[j7 b cx]++us:=by
  apply Array.toList_inj.1;simp
 rw[e]at hc
 refine hc.mono ?_
 rintro e w'' ⟨Yf,H2,ag,aJ,he,hm,bn,_,_,hres,_⟩
 obtain⟨cy,h1,h2⟩:=qkd h hres
 exact⟨cy,by rw[he,h1],qkY cn hm,qm.closed r (Ty.bg r hrf) h2⟩
theorem Dx(ae:qx P aa)(hs:qh P C s a w H Φ){Hf:FH}(hle:H.le Hf){f:Nat}{first aG:AV}{vs us:Array Value}(kC:qi P C w H Φ s.obj first (.tuple vs))(fh:qi P C w H Φ s.obj aG (.tuple us))
  (hf:GG w Hf Φ s.obj (first.aK++aG.aK)) {b c r:Ty} (hb:b.ay=true) (hc0:c.ay=true) {x:b.den} {z:c.den} {y:r.den} (h:Dy aa s f first aG b c r x z=some y)
  {H':FH} {w':World} {cx cz:List Value} (hle':Hf.le H') (cD:cI H' w') (hx:qm P b w' H' x cx []) (hz:qm P c w' H' z cz []):
  Calls P f (vs ++ #[j7 b cx,j7 c cz]++us) w' λe w''=>∃cy,e = .returned (j7 r cy)/\jO jA w' w''/\qm P r w'' H' y cy []:=by
 unfold Dy at h
 split at h
 case h_2=>cases h
 rename_i p hp
 obtain⟨_,dD⟩:=ae.b_ f p hp
 cases hq:p.ps.all j3.reads&&r.az&&first.aY&&aG.aY with
 |false=>rw[hq]at h;cases h
 |true=>
 rw[hq,cond_true]at h
 simp only[Bool.and_eq_true]at hq
 obtain⟨⟨⟨hps,hrf⟩,ht1⟩,ht2⟩:=hq
 have l1:=sN (vs:=vs.toList) ht1 (by simpa using kC)
 have l2:=sN (vs:=us.toList) ht2 (by simpa using fh)
 have hrel:dl (DQ P C w H Φ s.obj w' H') (first.list ++ .val b x :: .val c z::aG.list) (vs.toList++j7 b cx::j7 c cz::us.toList):=
  dl.append (dl.imp (λ_ _ h=>.inl h) l1) ⟨.inr ⟨b,x,cx,rfl,hb,rfl,hx⟩,.inr ⟨c,z,cz,rfl,hc0,rfl,hz⟩,dl.imp (λ_ _ h=>.inl h) l2⟩
 obtain⟨d,h,ai,hargs,cn⟩:=Zb hs hle hle' hps (by
  intro av vy id aF
  rcases List.mem_append.1 vy with h1|h1
  ·exact hf id (List.mem_append.2 (.inl (UF ht1 av h1 aF)))
  ·rcases List.mem_cons.1 h1 with rfl|h1
   ·cases aF
   rcases List.mem_cons.1 h1 with rfl|h1
   ·cases aF
   ·exact hf id (List.mem_append.2 (.inr (UF ht2 av h1 aF)))) hrel h
 rw[qj]at h
 replace h:=Option.bind_eq_some_iff.1 h
 obtain⟨y',hy',h⟩:=h
 have hc:=dD d y' hy' w' H' _ ai cD hargs (by rw[cn];simp) (by rw[cn];simp)
 have e:(vs.toList++j7 b cx::j7 c cz::us.toList).toArray=vs ++ #[j7 b cx,j7 c cz]++us:=by
  apply Array.toList_inj.1;simp
 rw[e]at hc
 refine hc.mono ?_
 rintro e w'' ⟨Yf,H2,ag,aJ,he,hm,bn,_,_,hres,_⟩
 obtain⟨cy,h1,h2⟩:=qkd h hres
 exact⟨cy,by rw[he,h1],qkY cn hm,qm.closed r (Ty.bg r hrf) h2⟩
theorem Av(ae:qx P aa)(hs:qh P C s a w H Φ){Hf:FH}(hle:H.le Hf){av:AV}{v:Value}(hf:GG w Hf Φ s.obj av.aK)(hr:qi P C w H Φ s.obj av v){τ:Ty}{kk:τ.den->Option R}(h:Aw aa s av τ kk=some r):
  τ.ay=true/\∃x,kk x=some r/\uk P w Hf τ x v:=by
 unfold Aw at h
 split at h
 ·rename_i f first aG
  obtain⟨vs,us,hv,kC,fh⟩:=hr
  split at h
  ·rename_i b r2 kk
   cases hq:(lk aa.b_ f).isSome&&b.ay&&r2.ay with
   |false=>rw[hq]at h;cases h
   |true=>
   rw[hq,cond_true]at h
   simp only[Bool.and_eq_true]at hq
   obtain⟨⟨hq,hb⟩,KL⟩:=hq
   obtain⟨p,hp⟩:=Option.isSome_iff_exists.1 hq
   obtain⟨eC,_⟩:=ae.b_ f p hp
   refine⟨by simp[Ty.ay,hb,KL],_,h,[v],rfl,rfl,f,vs,us,by rw[hv],eC,?_⟩
   intro x y hxy H' w' cx hle' cD hx
   exact Dz ae hs hle kC fh hf hb hxy hle' cD hx
  ·rename_i b c r2 kk
   cases hq:(lk aa.b_ f).isSome&&b.ay&&c.ay&&r2.ay with
   |false=>rw[hq]at h;cases h
   |true=>
   rw[hq,cond_true]at h
   simp only[Bool.and_eq_true]at hq
   obtain⟨⟨⟨hq,hb⟩,hc⟩,KL⟩:=hq
   obtain⟨p,hp⟩:=Option.isSome_iff_exists.1 hq
   obtain⟨eC,_⟩:=ae.b_ f p hp
   refine⟨by simp[Ty.ay,hb,hc,KL],_,h,[v],rfl,rfl,f,vs,us,by rw[hv],eC,?_⟩
   intro x z y hxy H' w' cx cz hle' cD hx hz
   exact Dx ae hs hle kC fh hf hb hc hxy hle' cD hx hz
  ·cases h
 ·exact ME hs hle (FH.le_refl _) hf (.inl hr) h
def pT(os:Nat->Option Obj)(Φ:Nat->qH):List j3->List AV->List qH->Prop
 |[],l,ai=>l=[]/\ai=[]
 |.v _::ps,l,ai=>∃av l' φ ag,l=av::l'/\ai=φ::ag/\φ.fp=[]/\pT os Φ ps l' ag
 |.r _::ps,l,ai=>∃av l' φ ag,l=av::l'/\ai=φ::ag/\φ.fp=[]/\pT os Φ ps l' ag
 |.c _::ps,l,ai=>∃av l' φ ag,l=av::l'/\ai=φ::ag/\φ.fp=[]/\pT os Φ ps l' ag
 |.m τ::ps,l,ai=>∃id l' ag x,l = .ptr id []::l'/\ai=Φ id::ag/\os id=some ⟨false,τ,x⟩/\pT os Φ ps l' ag
 |.gm τ::ps,l,ai=>∃id l' ag x,l = .ptr id []::l'/\ai=Φ id::ag/\os id=some ⟨false,τ,x⟩/\pT os Φ ps l' ag
 |.mr tid e::ps,l,ai=>∃id l' ag x,l = .view id []::l'/\ai=Φ id::ag/\os id=some ⟨true,.list true tid e,x⟩/\pT os Φ ps l' ag
 |.t tid e::ps,l,ai=>∃id l' ag x,l = .view id []::l'/\ai=Φ id::ag/\os id=some ⟨true,.list true tid e,x⟩/\pT os Φ ps l' ag
 |.cm f τ::ps,l,ai=>∃id l' ag x,l = .fn f .nil (.cons (.ptr id []) .nil)::l'/\ai=Φ id::ag/\os id=some ⟨false,τ,x⟩/\pT os Φ ps l' ag
theorem xO(ae:qx P aa)(hs:qh P C s a w H Φ){Hf:FH}(hle:H.le Hf):
  ∀{ps:List j3} {l:List AV} {vs:List Value} {kk:aI ps->Option R},GG w Hf Φ s.obj (qG ps l)->dl (qi P C w H Φ s.obj) l vs->qb1 aa s ps l kk=some r->
   ∃d,kk d=some r/\∃ai,jU P w Hf ps d vs ai/\pT s.obj Φ ps l ai
 |[],l,vs,kk,_,hrel,h=>by
  match l,vs,hrel with
  |[],[],_=>exact⟨(),h,[],⟨rfl,rfl⟩,rfl,rfl⟩
  |_::_,_,hrel=>cases h
 |.v τ::ps,l,vs,kk,hf,hrel,h=>by
  match l,vs,hrel with
  |[],_,_=>cases h
  |av::l,v::vs,hrel=>
   simp only[qb1]at h
   obtain⟨hfz,x,h,hv⟩:=Av ae hs hle (λid aF=>hf id (by simp[qG,aF])) hrel.1 h
   obtain⟨d,h,ai,h2,h3⟩:=xO ae hs hle (λid aF=>hf id (by simp[qG,aF])) hrel.2 h
   exact⟨(x,d),h,qA::ai,⟨v,vs,qA,ai,rfl,rfl,hfz,rfl,hv,h2⟩,av,l,qA,ai,rfl,rfl,rfl,h3⟩
  |_::_,[],hrel=>exact hrel.elim
 |.r τ::ps,l,vs,kk,hf,hrel,h=>by
  match l,vs,hrel with
  |[],_,_=>cases h
  |av::l,v::vs,hrel=>
   simp only[qb1]at h
   obtain⟨hfz,x,h,hv⟩:=qhG hs hle (FH.le_refl _) (λid aF=>hf id (by simp[qG,aF])) (.inl hrel.1) h
   obtain⟨d,h,ai,h2,h3⟩:=xO ae hs hle (λid aF=>hf id (by simp[qG,aF])) hrel.2 h
   exact⟨(x,d),h,qA::ai,⟨v,vs,qA,ai,rfl,rfl,hfz,rfl,hv,h2⟩,av,l,qA,ai,rfl,rfl,rfl,h3⟩
  |_::_,[],hrel=>exact hrel.elim
 |.c f::ps,l,vs,kk,hf,hrel,h=>by
  match l,vs,hrel with
  |[],_,_=>cases h
  |av::l,v::vs,hrel=>
   simp only[qb1]at h
   split at h
   case h_2=>cases h
   rename_i g
   cases hg:Nat.beq g f with
   |false=>rw[hg]at h;cases h
   |true=>
   rw[hg,cond_true]at h
   obtain rfl:=Nat.eq_of_beq_eq_true hg
   obtain⟨d,h,ai,h2,h3⟩:=xO ae hs hle (λid aF=>hf id (by simp[qG,aF])) hrel.2 h
   obtain⟨v1,v2,e1,e2,e3⟩:=hrel.1
   have e2:v1 = #[]:=by simpa[qi]using e2
   have e3:v2 = #[]:=by simpa[qi]using e3
   subst e2;subst e3
   exact⟨((),d),h,qA::ai,⟨v,vs,qA,ai,rfl,rfl,trivial,rfl,e1,h2⟩,_,l,qA,ai,rfl,rfl,rfl,h3⟩
  |_::_,[],hrel=>exact hrel.elim
 |.m τ::ps,l,vs,kk,hf,hrel,h=>by
  match l,vs,hrel with
  |[],_,_=>cases h
  |av::l,v::vs,hrel=>
   simp only[qb1]at h
   split at h
   case h_2=>cases h
   rename_i id
   split at h
   case h_2=>cases h
   rename_i o ho
   obtain⟨row,σ,x⟩:=o
   cases row with
   |true=>cases h
   |false=>
   simp only[cond_false,qj]at h
   replace h:=Option.bind_eq_some_iff.1 h
   obtain⟨y,hy,h⟩:=h
   obtain⟨e,hy⟩:=qg hy
   subst e
   subst hy
   obtain⟨d,h,ai,h2,h3⟩:=xO ae hs hle (λid aF=>hf id (by simp[qG,aF])) hrel.2 h
   obtain⟨o2,y2,b,off,q1,_,_,q4,q5⟩:=hrel.1
   rw[ho]at q1
   cases q1
   obtain⟨rfl,rfl⟩:=jT.fN _ q4 (kV w σ (Φ id).b 0)
   exact⟨(_,d),h,Φ id::ai,⟨v,vs,Φ id,ai,rfl,rfl,q5,(hs.os id _ ho).1.frame hle (λ_ _=>rfl),h2⟩,id,l,ai,_,rfl,rfl,ho,h3⟩
  |_::_,[],hrel=>exact hrel.elim
 |.gm τ::ps,l,vs,kk,hf,hrel,h=>by
  match l,vs,hrel with
  |[],_,_=>cases h
  |av::l,v::vs,hrel=>
   simp only[qb1]at h
   split at h
   case h_2=>cases h
   rename_i id
   split at h
   case h_2=>cases h
   rename_i o ho
   obtain⟨row,σ,x⟩:=o
   cases row with
   |true=>cases h
   |false=>
   simp only[cond_false,qj]at h
   replace h:=Option.bind_eq_some_iff.1 h
   obtain⟨y,hy,h⟩:=h
   obtain⟨e,hy⟩:=qg hy
   subst e
   subst hy
   obtain⟨d,h,ai,h2,h3⟩:=xO ae hs hle (λid aF=>hf id (by simp[qG,aF])) hrel.2 h
   obtain⟨o2,y2,b,off,q1,_,_,q4,q5⟩:=hrel.1
   rw[ho]at q1
   cases q1
   obtain⟨rfl,rfl⟩:=jT.fN _ q4 (kV w σ (Φ id).b 0)
   exact⟨(_,d),h,Φ id::ai,⟨v,vs,Φ id,ai,rfl,rfl,q5,(hs.os id _ ho).1.frame hle (λ_ _=>rfl),h2⟩,id,l,ai,_,rfl,rfl,ho,h3⟩
  |_::_,[],hrel=>exact hrel.elim
 |.mr tid e::ps,l,vs,kk,hf,hrel,h=>by
  match l,vs,hrel with
  |[],_,_=>cases h
  |av::l,v::vs,hrel=>
   simp only[qb1]at h
   split at h
   case h_2=>cases h
   rename_i id
   split at h
   case h_2=>cases h
   rename_i o ho
   obtain⟨row,σ,x⟩:=o
   cases row with
   |false=>cases h
   |true=>
   simp only[cond_true,qj]at h
   replace h:=Option.bind_eq_some_iff.1 h
   obtain⟨y,hy,h⟩:=h
   obtain⟨e,hy⟩:=qg hy
   subst e
   subst hy
   obtain⟨d,h,ai,h2,h3⟩:=xO ae hs hle (λid aF=>hf id (by simp[qG,aF])) hrel.2 h
   obtain⟨o2,y2,q1,_,q5⟩:=hrel.1
   rw[ho]at q1
   cases q1
   exact⟨(_,d),h,Φ id::ai,⟨v,vs,Φ id,ai,rfl,rfl,q5,(hs.os id _ ho).1.frame hle (λ_ _=>rfl),h2⟩,id,l,ai,_,rfl,rfl,ho,h3⟩
  |_::_,[],hrel=>exact hrel.elim
 |.t tid e::ps,l,vs,kk,hf,hrel,h=>by
  match l,vs,hrel with
  |[],_,_=>cases h
  |av::l,v::vs,hrel=>
   simp only[qb1]at h
   split at h
   case h_2=>cases h
   rename_i id
   split at h
   case h_2=>cases h
   rename_i o ho
   obtain⟨row,σ,x⟩:=o
   cases row with
   |false=>cases h
   |true=>
   simp only[cond_true,qj]at h
   replace h:=Option.bind_eq_some_iff.1 h
   obtain⟨y,hy,h⟩:=h
   obtain⟨e,hy⟩:=qg hy
   subst e
   subst hy
   obtain⟨d,h,ai,h2,h3⟩:=xO ae hs hle (λid aF=>hf id (by simp[qG,aF])) hrel.2 h
   obtain⟨o2,y2,q1,_,q5⟩:=hrel.1
   rw[ho]at q1
   cases q1
   exact⟨(_,d),h,Φ id::ai,⟨v,vs,Φ id,ai,rfl,rfl,q5,(hs.os id _ ho).1.frame hle (λ_ _=>rfl),h2⟩,id,l,ai,_,rfl,rfl,ho,h3⟩
  |_::_,[],hrel=>exact hrel.elim
 |.cm f τ::ps,l,vs,kk,hf,hrel,h=>by
  match l,vs,hrel with
  |[],_,_=>cases h
  |av::l,v::vs,hrel=>
   simp only[qb1]at h
   split at h
   case h_2=>cases h
   rename_i g id
   cases hg:Nat.beq g f with
   |false=>rw[hg]at h;cases h
   |true=>
   rw[hg,cond_true]at h
   obtain rfl:=Nat.eq_of_beq_eq_true hg
   split at h
   case h_2=>cases h
   rename_i o ho
   obtain⟨row,σ,x⟩:=o
   cases row with
   |true=>cases h
   |false=>
   simp only[cond_false,qj]at h
   replace h:=Option.bind_eq_some_iff.1 h
   obtain⟨y,hy,h⟩:=h
   obtain⟨e,hy⟩:=qg hy
   subst e
   subst hy
   obtain⟨d,h,ai,h2,h3⟩:=xO ae hs hle (λid aF=>hf id (by simp[qG,aF])) hrel.2 h
   obtain⟨v1,v2,e1,e2,e3⟩:=hrel.1
   have e2:v1 = #[]:=by simpa[qi]using e2
   obtain⟨u,us,e4,⟨o2,y2,b,off,q1,_,_,q4,q5⟩,e5⟩:=e3
   have e5:us=[]:=by simpa[qi]using e5
   have e4:v2 = #[u]:=by simpa[e5]using e4
   rw[ho]at q1
   cases q1
   obtain⟨rfl,rfl⟩:=jT.fN _ q4 (kV w σ (Φ id).b 0)
   exact⟨(_,d),h,Φ id::ai,⟨v,vs,Φ id,ai,rfl,rfl,by rw[e1,e2,e4,q5],(hs.os id _ ho).1.frame hle (λ_ _=>rfl),h2⟩,id,l,ai,_,rfl,rfl,ho,h3⟩
  |_::_,[],hrel=>exact hrel.elim
end
end Go.Vi
namespace Go.Vi
section
variable {P:Program} {C:cM} {aa:jB} {R:Type} {r:R} {s:St} {a:Act} {w:World} {H:FH} {Φ:Nat->qH} {dst:Option Nat} {ty:TypeId} {pos:String} {after:Array Edge} {guard:Option (Nat×Bool)} {k:St->Option R}
def Ro(id:Nat):Option Obj->AV->Bool
 |some o=>AV.bB id o.row
 |none=>AV.names id
def J'(ch:Nat->Option (Option Obj×List Nat))(Φ:Nat->qH)(id:Nat):qH:=
 match ch id with
 |some x=>⟨(Φ id).b,(Φ id).ax,x.2⟩
 |none=>Φ id
theorem qh.rH{s s':St}{a:Act}{w w':World}{H H':FH}{Φ:Nat->qH}(h:qh P C s a w H Φ){ch:Nat->Option (Option Obj×List Nat)}{F:AV->Bool}
  (hch:∀id x,ch id=some x->∃o,s.obj id=some o/\∀ob,x.1=some ob->ob.row=o.row/\ob.τ=o.τ/\qR P w' H' ob ⟨(Φ id).b,(Φ id).ax,x.2⟩)
  (bh:∀id,s'.obj id=match ch id with|some x=>x.1|none=>s.obj id)
  (cW:∀t,s'.get t=(s.get t).map (AV.af F)) (hF:∀id x,ch id=some x->∀av,Ro id x.1 av=true->F av=true) (hFu:∀av,AV.aH av=true->F av=true)
  (hH:H.le H') (cD:cI H' w') (hnew:∀b c,H' b=some c->C.H0 b=some c\/C.M0 b\/C.w0.heap.size<=b) (cH:jO C.M0 C.w0 w') (hsz:w.heap.size<=w'.heap.size)
  (hw:∀j o',ch j=none->s.obj j=some o'->∀b∈(Φ j).fp,w'.heap[b]? = w.heap[b]?/\H' b=none)
  (bl:∀id x,ch id=some x->∀b∈x.2,H' b=none/\(C.M0 b\/C.w0.heap.size<=b)/\b<w'.heap.size/\∀j o',ch j=none->s.obj j=some o'->b∉(Φ j).fp)
  (Wm:∀i j x y,i≠j->ch i=some x->ch j=some y->∀b∈x.2,b∉y.2):
  qh P C s' a w' H' (J' ch Φ):=by
 have hsame:∀j,ch j=none->J' ch Φ j=Φ j:=λj hj=>by unfold J';rw[hj]
 have kz:∀j x,ch j=some x->J' ch Φ j=⟨(Φ j).b,(Φ j).ax,x.2⟩:=λj x hj=>by unfold J';rw[hj]
 have hos:∀j o',ch j=none->s.obj j=some o'->s'.obj j=some o':=by
  intro j o' hj cu
  rw[bh,hj];exact cu
 refine⟨h.defers,h.size,FH.le_trans h.le hH,cD,hnew,cH,?_,?_,?_,?_⟩
 ·intro t av ht
  rw[cW]at ht
  obtain⟨jm,h0,rfl⟩:=Option.map_eq_some_iff.1 ht
  refine qi.bK F hH ?_ ?_ ?_ jm _ (h.ts t jm h0)
  ·intro j p v hf hr
   cases hj:ch j with
   |some x=>
    obtain⟨xo,xf⟩:=x
    cases xo with
    |none=>
     have:=hF j _ hj (.ptr j p) (by simp[Ro,AV.names,Nat.beq_refl])
     rw[hf]at this;cases this
    |some xo=>
    obtain⟨o,ho,hall⟩:=hch j _ hj
    obtain⟨hrow,lg,_⟩:=hall xo rfl
    obtain⟨o1,y,b,off,h1,h2,h3,h4,h5⟩:=hr
    rw[ho]at h1
    cases h1
    have hp:p.any qu.dW=false:=by
     cases nY:p.any qu.dW with
     |false=>rfl
     |true=>
      have:=hF j _ hj (.ptr j p) (by simp[Ro,AV.bB,Nat.beq_refl,nY])
      rw[hf]at this;cases this
    have wQ:o.row=false:=by
     cases hr:o.row with
     |false=>rfl
     |true=>
      exfalso
      obtain⟨row,τ,x⟩:=o
      simp only at hr
      subst hr
      unfold jV at h4
      simp only at h4
      split at h4
      ·simp[qu.dW]at hp
      ·exact h4
    obtain⟨LH,xτ,xx⟩:=xo
    obtain⟨row,τ,ox⟩:=o
    simp only at hrow lg wQ
    subst lg
    subst hrow
    subst wQ
    obtain⟨y',hy'⟩:=RM xτ xx hp (jH _ h3)
    refine⟨⟨false,xτ,xx⟩,⟨y.1,y'⟩,b,off,?_,rfl,hy',?_,h5⟩
    ·rw[bh,hj]
    ·rw[kz j _ hj]
     exact jT.static _ hp h4
   |none=>exact qi.dU (λo ho=>hos j o hj ho) (hsame j hj) (λo1 uN=>⟨(h.os j o1 uN).1,λb hb=>(hw j o1 hj uN b hb).1⟩) hr
  ·intro j p v hf hr
   cases hj:ch j with
   |some x=>
    obtain⟨xo,xf⟩:=x
    cases xo with
    |none=>
     have:=hF j _ hj (.view j p) (by simp[Ro,AV.names,Nat.beq_refl])
     rw[hf]at this;cases this
    |some xo=>
    obtain⟨o,ho,hall⟩:=hch j _ hj
    obtain⟨hrow,lg,_⟩:=hall xo rfl
    have hp:(o.row&&p.isEmpty)=true:=by
     cases nY:o.row&&p.isEmpty with
     |true=>rfl
     |false=>
      have:=hF j _ hj (.view j p) (by simp[Ro,AV.bB,Nat.beq_refl,hrow,nY])
      rw[hf]at this;cases this
    obtain⟨o1,y,h1,h2,h3⟩:=hr
    rw[ho]at h1
    cases h1
    rw[hp]at h3
    simp only[Bool.and_eq_true,List.isEmpty_iff]at hp
    obtain⟨wQ,rfl⟩:=hp
    refine⟨xo,⟨xo.τ,xo.x⟩,by rw[bh,hj],qO _ _,?_⟩
    simp only[hrow,wQ,List.isEmpty_nil,Bool.and_self,kz j _ hj]
    exact h3
   |none=>exact qi.cG (λo ho=>hos j o hj ho) (hsame j hj) (λo1 uN=>⟨(h.os j o1 uN).1,λb hb=>(hw j o1 hj uN b hb).1⟩) hr
  ·intro j p t e l v hf
   rw[hFu _ rfl]at hf;cases hf
 ·intro j o1 hj
  rw[bh]at hj
  cases hc:ch j with
  |some x=>
   rw[hc]at hj
   obtain⟨o,ho,hall⟩:=hch j x hc
   obtain⟨_,_,hok⟩:=hall o1 hj
   rw[kz j x hc]
   exact⟨hok,λb hb=>⟨(bl j x hc b hb).1,(bl j x hc b hb).2.1,(bl j x hc b hb).2.2.1⟩⟩
  |none=>
   rw[hc]at hj
   rw[hsame j hc]
   obtain⟨h1,h2⟩:=h.os j o1 hj
   exact⟨h1.frame hH (λb hb=>(hw j o1 hc hj b hb).1),λb hb=>⟨(hw j o1 hc hj b hb).2,(h2 b hb).2.1,Nat.lt_of_lt_of_le (h2 b hb).2.2 hsz⟩⟩
 ·intro i j o1 o2 hij h1 h2 b hb
  rw[bh]at h1 h2
  cases hi:ch i with
  |some x=>
   rw[kz i x hi]at hb
   cases hj:ch j with
   |some y=>
    rw[kz j y hj]
    exact Wm i j x y hij hi hj b hb
   |none=>
    rw[hj]at h2
    rw[hsame j hj]
    exact(bl i x hi b hb).2.2.2 j o2 hj h2
  |none=>
   rw[hi]at h1
   rw[hsame i hi]at hb
   cases hj:ch j with
   |some y=>
    rw[kz j y hj]
    intro hb'
    exact(bl j y hj b hb').2.2.2 i o1 hi h1 hb
   |none=>
    rw[hj]at h2
    rw[hsame j hj]
    exact h.aN i j o1 o2 hij h1 h2 b hb
 ·refine⟨λj eE hj=>?_,λj=>?_⟩
  ·have:=h.pins.1 j eE hj
   cases hc:ch j with
   |some x=>rw[kz j x hc];exact this
   |none=>rw[hsame j hc];exact this
  ·have:=h.pins.2 j
   cases hc:ch j with
   |some x=>rw[kz j x hc];exact this
   |none=>rw[hsame j hc];exact this
theorem j9(f g:AV->Bool):∀av:AV,(av.af f).af g=av.af (λx=>f x||g x)
 |.dead=>by simp only[AV.af];cases f .dead<;>simp[AV.af]
 |.val τ x=>by simp only[AV.af];cases f (.val τ x)<;>simp[AV.af]
 |.ref τ x=>by simp only[AV.af];cases f (.ref τ x)<;>simp[AV.af]
 |.ptr i p=>by simp only[AV.af];cases f (.ptr i p)<;>simp[AV.af]
 |.view i p=>by simp only[AV.af];cases f (.view i p)<;>simp[AV.af]
 |.d_ i p t e l=>by simp only[AV.af];cases f (.d_ i p t e l)<;>simp[AV.af]
 |.cut i p z lo=>by simp only[AV.af];cases hf:f (.view i p)<;>simp[AV.af]
 |.fn h a b=>by simp only[AV.af,j9 f g a,j9 f g b]
 |.nil=>by simp only[AV.af];cases f .nil<;>simp[AV.af]
 |.gh n a=>by simp only[AV.af,j9 f g a]
 |.cv i h n=>by simp only[AV.af];cases f (.cv i h n)<;>simp[AV.af]
 |.cons a b=>by simp only[AV.af,j9 f g a,j9 f g b]
theorem HD{os:Nat->Option Obj}{w':World}{H':FH}{Hf:FH}:∀{ps:List j3} {l:List AV} {vs:List Value} {ai ag:List qH} {d:aI ps} {md:aV ps},pT os Φ ps l ai->jU P w Hf ps d vs ai->jR P w' H' ps md vs ag->
  ∃ML:List (Nat×Option Obj×List Nat),ML.map (·.1)=qI ps l/\qc ag=ML.flatMap (·.2.2)/\qc ai=ML.flatMap (λx=>(Φ x.1).fp)/\
   (∀x∈ML,∃o,os x.1=some o/\∀ob,x.2.1=some ob->ob.row=o.row/\ob.τ=o.τ/\qR P w' H' ob ⟨(Φ x.1).b,(Φ x.1).ax,x.2.2⟩)/\
   ∀s0:St,∃F,(∀t,(qC s0 ps l md).get t=(s0.get t).map (AV.af F))/\(∀x∈ML,∀av,Ro x.1 x.2.1 av=true->F av=true)/\((ML.map (·.1)).Nodup->∀j,(qC s0 ps l md).obj j=match lk ML j with|some x=>x.1|none=>s0.obj j)
 |[],l,vs,ai,ag,d,md,hm,ha,dL=>by
  obtain⟨rfl,rfl⟩:=hm
  obtain⟨rfl,_⟩:=ha
  obtain⟨_,rfl⟩:=dL
  refine⟨[],rfl,rfl,rfl,by simp,λs0=>⟨λ_=>false,λt=>?_,by simp,λ_ j=>rfl⟩⟩
  simp only[qC]
  cases s0.get t with
  |none=>rfl
  |some av=>simp[qi.e_]
 |.v τ::ps,l,vs,ai,ag,d,md,hm,ha,dL=>by
  obtain⟨av,l',φ,bZ,rfl,rfl,hφ,hm⟩:=hm
  obtain⟨v,vs',eE,eF,rfl,e1,_,Vq,_,ha⟩:=ha
  obtain⟨rfl,rfl⟩:φ=eE/\bZ=eF:=by simpa using e1
  obtain⟨v2,oq,kT,iL,e2,rfl,mu,dL⟩:=dL
  obtain⟨rfl,rfl⟩:v=v2/\vs'=oq:=by simpa using e2
  obtain⟨ML,h1,h2,h3,h4,h5⟩:=HD hm ha dL
  exact⟨ML,h1,by simpa[qc,mu]using h2,by simpa[qc,hφ]using h3,h4,h5⟩
 |.r τ::ps,l,vs,ai,ag,d,md,hm,ha,dL=>by
  obtain⟨av,l',φ,bZ,rfl,rfl,hφ,hm⟩:=hm
  obtain⟨v,vs',eE,eF,rfl,e1,_,Vq,_,ha⟩:=ha
  obtain⟨rfl,rfl⟩:φ=eE/\bZ=eF:=by simpa using e1
  obtain⟨v2,oq,kT,iL,e2,rfl,mu,dL⟩:=dL
  obtain⟨rfl,rfl⟩:v=v2/\vs'=oq:=by simpa using e2
  obtain⟨ML,h1,h2,h3,h4,h5⟩:=HD hm ha dL
  exact⟨ML,h1,by simpa[qc,mu]using h2,by simpa[qc,hφ]using h3,h4,h5⟩
 |.c _::ps,l,vs,ai,ag,d,md,hm,ha,dL=>by
  obtain⟨av,l',φ,bZ,rfl,rfl,hφ,hm⟩:=hm
  obtain⟨v,vs',eE,eF,rfl,e1,_,Vq,_,ha⟩:=ha
  obtain⟨rfl,rfl⟩:φ=eE/\bZ=eF:=by simpa using e1
  obtain⟨v2,oq,kT,iL,e2,rfl,mu,dL⟩:=dL
  obtain⟨rfl,rfl⟩:v=v2/\vs'=oq:=by simpa using e2
  obtain⟨ML,h1,h2,h3,h4,h5⟩:=HD hm ha dL
  exact⟨ML,h1,by simpa[qc,mu]using h2,by simpa[qc,hφ]using h3,h4,h5⟩
 |.m τ::ps,l,vs,ai,ag,d,md,hm,ha,dL=>by
  obtain⟨id,l',bZ,x,rfl,rfl,ho,hm⟩:=hm
  obtain⟨v,vs',eE,eF,rfl,e1,hv,_,ha⟩:=ha
  obtain⟨rfl,rfl⟩:Φ id=eE/\bZ=eF:=by simpa using e1
  obtain⟨v2,oq,kT,iL,e2,rfl,fV,gB,dL⟩:=dL
  obtain⟨rfl,rfl⟩:v=v2/\vs'=oq:=by simpa using e2
  obtain⟨ML,h1,h2,h3,h4,h5⟩:=HD hm ha dL
  have hb:kT.b=(Φ id).b:=by
   rw[hv]at fV
   simpa using fV.symm
  refine⟨(id,some ⟨false,τ,md.1⟩,kT.fp)::ML,by simp[qI,AV.name,h1],by simpa[qc]using h2,by simpa[qc]using h3,?_,?_⟩
  ·intro y hy
   rcases List.mem_cons.1 hy with rfl|hy
   ·refine⟨_,ho,λob bF=>?_⟩
    cases bF
    refine⟨rfl,rfl,?_⟩
    obtain⟨k1,k2,blk,t,aC,k3,k4,k5⟩:=gB
    exact⟨k1,k2,blk,t,aC,by rw[<-hb];exact k3,k4,by rw[<-hb];exact k5⟩
   ·exact h4 y hy
  ·intro s0
   obtain⟨F,g1,g2,g3⟩:=h5 ((s0.af (AV.bB id false)).setObj id (some ⟨false,τ,md.1⟩))
   refine⟨λav=>AV.bB id false av||F av,?_,?_,?_⟩
   ·intro t
    show(qC ((s0.af (AV.bB id false)).setObj id (some ⟨false,τ,md.1⟩)) ps l' md.2).get t=_
    rw[g1,St.cZ,St.aS]
    cases s0.get t with
    |none=>rfl
    |some av=>simp[j9]
   ·intro y hy av hst
    rcases List.mem_cons.1 hy with rfl|hy
    ·have hst:AV.bB id false av=true:=hst
     simp[hst]
    ·simp[g2 y hy av hst]
   ·intro aq j
    simp only[List.map_cons,List.nodup_cons]at aq
    show(qC ((s0.af (AV.bB id false)).setObj id (some ⟨false,τ,md.1⟩)) ps l' md.2).obj j=_
    rw[g3 aq.2 j,jW,St.ak,St.cU]
    cases hb:Nat.beq id j with
    |true=>
     obtain rfl:=Nat.eq_of_beq_eq_true hb
     rw[My aq.1,if_pos rfl]
     rfl
    |false=>
     rw[if_neg (Nat.ne_of_beq_eq_false hb)]
     rfl
 |.mr tid e::ps,l,vs,ai,ag,d,md,hm,ha,dL=>by
  obtain⟨id,l',bZ,x,rfl,rfl,ho,hm⟩:=hm
  obtain⟨v,vs',eE,eF,rfl,e1,hv,_,ha⟩:=ha
  obtain⟨rfl,rfl⟩:Φ id=eE/\bZ=eF:=by simpa using e1
  obtain⟨v2,oq,kT,iL,e2,rfl,fV,gB,dL⟩:=dL
  obtain⟨rfl,rfl⟩:v=v2/\vs'=oq:=by simpa using e2
  obtain⟨ML,h1,h2,h3,h4,h5⟩:=HD hm ha dL
  have hb:kT.ax=(Φ id).ax:=by rw[<-hv,fV]
  refine⟨(id,some ⟨true,.list true tid e,md.1⟩,kT.fp)::ML,by simp[qI,AV.name,h1],by simpa[qc]using h2,by simpa[qc]using h3,?_,?_⟩
  ·intro y hy
   rcases List.mem_cons.1 hy with rfl|hy
   ·refine⟨_,ho,λob bF=>?_⟩
    cases bF
    refine⟨rfl,rfl,?_⟩
    obtain⟨k1,k2,k3,k4⟩:=gB
    exact⟨k1,k2,k3,by rw[<-hb];exact k4⟩
   ·exact h4 y hy
  ·intro s0
   obtain⟨F,g1,g2,g3⟩:=h5 ((s0.af (AV.bB id true)).setObj id (some ⟨true,.list true tid e,md.1⟩))
   refine⟨λav=>AV.bB id true av||F av,?_,?_,?_⟩
   ·intro t
    show(qC ((s0.af (AV.bB id true)).setObj id (some ⟨true,.list true tid e,md.1⟩)) ps l' md.2).get t=_
    rw[g1,St.cZ,St.aS]
    cases s0.get t with
    |none=>rfl
    |some av=>simp[j9]
   ·intro y hy av hst
    rcases List.mem_cons.1 hy with rfl|hy
    ·have hst:AV.bB id true av=true:=hst
     simp[hst]
    ·simp[g2 y hy av hst]
   ·intro aq j
    simp only[List.map_cons,List.nodup_cons]at aq
    show(qC ((s0.af (AV.bB id true)).setObj id (some ⟨true,.list true tid e,md.1⟩)) ps l' md.2).obj j=_
    rw[g3 aq.2 j,jW,St.ak,St.cU]
    cases hb:Nat.beq id j with
    |true=>
     obtain rfl:=Nat.eq_of_beq_eq_true hb
     rw[My aq.1,if_pos rfl]
     rfl
    |false=>
     rw[if_neg (Nat.ne_of_beq_eq_false hb)]
     rfl
 |.t tid e::ps,l,vs,ai,ag,d,md,hm,ha,dL=>by
  obtain⟨id,l',bZ,x,rfl,rfl,ho,hm⟩:=hm
  obtain⟨v,vs',eE,eF,rfl,e1,hv,_,ha⟩:=ha
  obtain⟨rfl,rfl⟩:Φ id=eE/\bZ=eF:=by simpa using e1
  obtain⟨v2,oq,kT,iL,e2,rfl,mu,dL⟩:=dL
  obtain⟨rfl,rfl⟩:v=v2/\vs'=oq:=by simpa using e2
  obtain⟨ML,h1,h2,h3,h4,h5⟩:=HD hm ha dL
  refine⟨(id,none,[])::ML,by simp[qI,AV.name,h1],by simpa[qc,mu]using h2,by simpa[qc]using h3,?_,?_⟩
  ·intro y hy
   rcases List.mem_cons.1 hy with rfl|hy
   ·exact⟨_,ho,λob bF=>by cases bF⟩
   ·exact h4 y hy
  ·intro s0
   obtain⟨F,g1,g2,g3⟩:=h5 ((s0.kill id).setObj id none)
   refine⟨λav=>AV.names id av||F av,?_,?_,?_⟩
   ·intro t
    show(qC ((s0.kill id).setObj id none) ps l' md).get t=_
    rw[g1,St.cZ,St.kill,St.aS]
    cases s0.get t with
    |none=>rfl
    |some av=>simp[j9]
   ·intro y hy av hst
    rcases List.mem_cons.1 hy with rfl|hy
    ·have hst:AV.names id av=true:=hst
     simp[hst]
    ·simp[g2 y hy av hst]
   ·intro aq j
    simp only[List.map_cons,List.nodup_cons]at aq
    show(qC ((s0.kill id).setObj id none) ps l' md).obj j=_
    rw[g3 aq.2 j,jW,St.ak,St.kill,St.cU]
    cases hb:Nat.beq id j with
    |true=>
     obtain rfl:=Nat.eq_of_beq_eq_true hb
     rw[My aq.1,if_pos rfl]
     rfl
    |false=>
     rw[if_neg (Nat.ne_of_beq_eq_false hb)]
     rfl
 |.gm τ::ps,l,vs,ai,ag,d,md,hm,ha,dL=>by
  obtain⟨id,l',bZ,x,rfl,rfl,ho,hm⟩:=hm
  obtain⟨v,vs',eE,eF,rfl,e1,hv,_,ha⟩:=ha
  obtain⟨rfl,rfl⟩:Φ id=eE/\bZ=eF:=by simpa using e1
  obtain⟨v2,oq,kT,iL,e2,rfl,mu,dL⟩:=dL
  obtain⟨rfl,rfl⟩:v=v2/\vs'=oq:=by simpa using e2
  obtain⟨ML,h1,h2,h3,h4,h5⟩:=HD hm ha dL
  refine⟨(id,none,[])::ML,by simp[qI,AV.name,h1],by simpa[qc,mu]using h2,by simpa[qc]using h3,?_,?_⟩
  ·intro y hy
   rcases List.mem_cons.1 hy with rfl|hy
   ·exact⟨_,ho,λob bF=>by cases bF⟩
   ·exact h4 y hy
  ·intro s0
   obtain⟨F,g1,g2,g3⟩:=h5 ((s0.kill id).setObj id none)
   refine⟨λav=>AV.names id av||F av,?_,?_,?_⟩
   ·intro t
    show(qC ((s0.kill id).setObj id none) ps l' md).get t=_
    rw[g1,St.cZ,St.kill,St.aS]
    cases s0.get t with
    |none=>rfl
    |some av=>simp[j9]
   ·intro y hy av hst
    rcases List.mem_cons.1 hy with rfl|hy
    ·have hst:AV.names id av=true:=hst
     simp[hst]
    ·simp[g2 y hy av hst]
   ·intro aq j
    simp only[List.map_cons,List.nodup_cons]at aq
    show(qC ((s0.kill id).setObj id none) ps l' md).obj j=_
    rw[g3 aq.2 j,jW,St.ak,St.kill,St.cU]
    cases hb:Nat.beq id j with
    |true=>
     obtain rfl:=Nat.eq_of_beq_eq_true hb
     rw[My aq.1,if_pos rfl]
     rfl
    |false=>
     rw[if_neg (Nat.ne_of_beq_eq_false hb)]
     rfl
 |.cm f τ::ps,l,vs,ai,ag,d,md,hm,ha,dL=>by
  obtain⟨id,l',bZ,x,rfl,rfl,ho,hm⟩:=hm
  obtain⟨v,vs',eE,eF,rfl,e1,hv,_,ha⟩:=ha
  obtain⟨rfl,rfl⟩:Φ id=eE/\bZ=eF:=by simpa using e1
  obtain⟨v2,oq,kT,iL,e2,rfl,fV,gB,dL⟩:=dL
  obtain⟨rfl,rfl⟩:v=v2/\vs'=oq:=by simpa using e2
  obtain⟨ML,h1,h2,h3,h4,h5⟩:=HD hm ha dL
  have hb:kT.b=(Φ id).b:=by
   rw[hv]at fV
   simpa using fV.symm
  refine⟨(id,some ⟨false,τ,md.1⟩,kT.fp)::ML,by simp[qI,AV.jd,AV.name,h1],by simpa[qc]using h2,by simpa[qc]using h3,?_,?_⟩
  ·intro y hy
   rcases List.mem_cons.1 hy with rfl|hy
   ·refine⟨_,ho,λob bF=>?_⟩
    cases bF
    refine⟨rfl,rfl,?_⟩
    obtain⟨k1,k2,blk,t,aC,k3,k4,k5⟩:=gB
    exact⟨k1,k2,blk,t,aC,by rw[<-hb];exact k3,k4,by rw[<-hb];exact k5⟩
   ·exact h4 y hy
  ·intro s0
   obtain⟨F,g1,g2,g3⟩:=h5 ((s0.af (AV.bB id false)).setObj id (some ⟨false,τ,md.1⟩))
   refine⟨λav=>AV.bB id false av||F av,?_,?_,?_⟩
   ·intro t
    show(qC ((s0.af (AV.bB id false)).setObj id (some ⟨false,τ,md.1⟩)) ps l' md.2).get t=_
    rw[g1,St.cZ,St.aS]
    cases s0.get t with
    |none=>rfl
    |some av=>simp[j9]
   ·intro y hy av hst
    rcases List.mem_cons.1 hy with rfl|hy
    ·have hst:AV.bB id false av=true:=hst
     simp[hst]
    ·simp[g2 y hy av hst]
   ·intro aq j
    simp only[List.map_cons,List.nodup_cons]at aq
    show(qC ((s0.af (AV.bB id false)).setObj id (some ⟨false,τ,md.1⟩)) ps l' md.2).obj j=_
    rw[g3 aq.2 j,jW,St.ak,St.cU]
    cases hb:Nat.beq id j with
    |true=>
     obtain rfl:=Nat.eq_of_beq_eq_true hb
     rw[My aq.1,if_pos rfl]
     rfl
    |false=>
     rw[if_neg (Nat.ne_of_beq_eq_false hb)]
     rfl
end
end Go.Vi
