/- The abstract interpreter Vi, part B: a verified interpreter over the model's code, whose run of a function gives the contract of the function. No condition beyond those typed in each theorem. -/
import Derived.Test.YtmlocmhkfnojbaaViZ
import Derived.Laws.Cover3
import Derived.Great.BuildSlice
namespace Go.Vi
section
variable {P:Program} {C:Ctx} {cfg:jG} {R:Type} {r:R} {s:St} {a:Act} {w:World} {H:FH} {Φ:Nat->qB} {dst:Option Nat} {ty:TypeId} {pos:String} {after:Array Edge} {guard:Option (Nat×Bool)} {k:St->Option R}
theorem qbe{t:TypeId}{τ:Ty}(h:qN P t τ){w:World}{b o:Nat}{blk:Array Value}{bt:TypeId}{f:Nat×Nat}(hb:w.heap[b]? = some (.cells blk bt f))(hs:(seg blk o τ.size).length=τ.size):
  (Instr.loadAt t (.pointer (some ⟨b,o,none⟩))).run P w = .ok (jZ τ (seg blk o τ.size)) w:=by
 obtain⟨_,_,_,hp,_⟩:=h.info
 obtain⟨pre,post,e1,e2⟩:=qjy hs hp
 have:=qhe h hb e1 hs
 rw[e2]at this
 simp[Instr.loadAt,Instr.sureAddr,this]
theorem take_ok(hcfg:qu P cfg)(hC:qz C cfg){T:TypeId}{x:Operand}{av:AV}{s':St}(hs:qg P C s a w H Φ)(hd:qF cfg.nt dst=true)(hr:qh P C w H Φ s.obj av (a.eval x))(h:qme cfg s dst T av=some s'):
  qah P C ⟨dst,.load T x,ty,pos,after,guard⟩ a w s':=by
 cases dst with
 |none=>cases h
 |some d=>
 unfold qme at h
 simp only at h
 cases hsite:lk cfg.site d with
 |none=>rw[hsite]at h;cases h
 |some _=>
 rw[hsite]at h
 cases av with
 |ptr id p=>
  cases p with
  |cons _ _=>cases h
  |nil=>
  simp only at h
  cases ho:s.obj id with
  |none=>rw[ho]at h;cases h
  |some o=>
  rw[ho]at h
  simp only at h
  cases hq: !o.row&&(qlg o.τ&&decide (lk cfg.ty T=some o.τ.fz))with
  |false=>rw[hq]at h;cases h
  |true=>
  rw[hq,cond_true]at h
  cases h
  rw[Bool.and_eq_true,Bool.and_eq_true]at hq
  obtain⟨hrow,hrt,hT⟩:=hq
  obtain⟨row,τ,y⟩:=o
  cases row with
  |true=>cases hrow
  |false=>
  obtain⟨hty,_⟩:=hcfg.ty T _ (of_decide_eq_true hT)
  have hty':=qN.unfz hty
  have hdl:d<cfg.nt:=Eq.mp Nat.blt_eq hd
  have hd2:d<4000000:=Nat.lt_of_lt_of_le hdl (Nat.le_trans hcfg.small (by decide))
  obtain⟨h1,h2⟩:=hs.os id _ ho
  obtain⟨hn,hnd,blk,t,fp',e1,e2,e3⟩:=h1
  obtain⟨o',z,b,off,q1,q2,q3,q4,hv⟩:=hr
  rw[ho]at q1
  cases q1
  obtain⟨rfl,rfl⟩:=jO.det _ q4 (j6 w τ (Φ id).b 0)
  have hlen:=qm.length τ e2
  have hseg:seg blk 0 τ.size=blk.toList:=qU (pre:=[]) (post:=[]) (by simp) hlen
  have hrm:=hs.remove id
  have hob:∀j o,((s.kill id).setObj id none).obj j=some o->s.obj j=some o/\j≠id:=by
   intro j o hj
   rw[St.obj_setObj]at hj
   split at hj
   ·cases hj
   ·rename_i hne;exact⟨hj,λe=>hne e.symm⟩
  rw[e3,List.nodup_cons]at hnd
  have hn1:=hrm.newObj (jM.refl _ _) (hC.pin d (Nat.lt_trans hd2 (by decide))) (qbb hd2) (row:=true) (τ:=τ) (x:=y) (φ:=⟨0,jZ τ blk.toList,fp'⟩)
   ⟨hn,hnd.2,hrt,blk.toList,rfl,e2⟩ (by
    intro b hb
    have hb':b∈(Φ id).fp:=by rw[e3];exact List.mem_cons_of_mem _ hb
    obtain⟨p1,p2,p3⟩:=h2 b hb'
    exact⟨p1,p2,p3,λj o' _ hj=>hs.disj id j _ o' (λe=>(hob j o' hj).2 e.symm) ho (hob j o' hj).1 b hb'⟩)
  refine qcn (v:=jZ τ blk.toList) ?_ ⟨H,_,hn1.set (by rw[hC.nt];exact hdl) ⟨⟨true,τ,y⟩,⟨τ,y⟩,?_,qH _ _,?_⟩⟩
  ·intro w' hm
   have:=qbe hty' (o:=0) (qdW hm e1) (by rw[hseg];exact hlen)
   rw[hseg]at this
   simp[execOp,hv,this]
  ·rw[St.newObj,St.obj_setObj,if_pos rfl]
  ·show jZ τ blk.toList=(qaQ Φ d _ d).hdr
   rw[qr]
 |_=>cases h
theorem qg.frzLoad(hs:qg P C s a w H Φ)(d:Option Nat)(x:Operand):∃H',qg P C (frzLoad cfg s d x) a w H' Φ:=by
 unfold Go.Vi.frzLoad
 split
 ·cases jY (8000000+_) cfg.enum with
  |false=>exact⟨H,hs⟩
  |true=>
   rw[cond_true]
   split
   ·rename_i id _ _
    obtain⟨H',_,_,_,h⟩:=hs.freeze id
    exact⟨H',h⟩
   ·exact⟨H,hs⟩
 ·exact⟨H,hs⟩
theorem qoe(hcfg:qu P cfg)(hC:qz C cfg){T:TypeId}{x:Operand}(hs:qg P C s a w H Φ)(hd:qF cfg.nt dst=true){i f n:Nat}(hr:qh P C w H Φ s.obj (.cv i f n) (a.eval x))(h:qkO cfg s dst T i n k=some r):
  ∃s',k s'=some r/\qah P C ⟨dst,.load T x,ty,pos,after,guard⟩ a w s':=by
 unfold qkO at h
 cases hq:Nat.beq i 2&&(Nat.beq (n/1000) 1&&qgg (lk cfg.ty T))with
 |false=>rw[hq]at h;cases h
 |true=>
 rw[hq,cond_true]at h
 simp only[Bool.and_eq_true]at hq
 obtain⟨q1,q2,q3⟩:=hq
 obtain rfl:=Nat.eq_of_beq_eq_true q1
 have q2:=Nat.eq_of_beq_eq_true q2
 split at h
 case h_2=>cases h
 rename_i o ho
 cases hrow:o.row with
 |true=>rw[hrow]at h;cases h
 |false=>
 rw[hrow,cond_false]at h
 obtain⟨b,cv,h1,⟨h2,h3⟩,hv⟩:=hr
 obtain⟨σ,hT⟩:∃σ,lk cfg.ty T=some (.ptr σ):=by
  unfold qgg at q3
  split at q3
  ·exact⟨_,by assumption⟩
  ·cases q3
 obtain⟨hty,hfz⟩:=hcfg.ty T _ hT
 rw[q2]at h2
 obtain⟨u,rfl⟩:∃u,cv=[u]:=by
  match cv,h2 with
  |[u],_=>exact⟨u,rfl⟩
 obtain⟨φ,hp,rfl⟩:=h3 0 u rfl
 rw[Nat.add_zero]at hp
 obtain⟨t,f',hb⟩:=hs.hok b _ h1
 refine⟨_,h,qp hs hC hd (v:=.pointer (some ⟨φ.b,0,none⟩)) ⟨o,⟨o.τ,o.x⟩,φ.b,0,ho,by rw[hrow];rfl,qH _ _,?_,rfl⟩ (λw' hm=>?_)⟩
 ·unfold jS
  rw[hrow,<-(hs.pins.1 _ _ hp).1]
  exact j6 _ _ _ _
 ·have:=qbe hty (o:=0) (qdW hm hb) rfl
  have hv':a.eval x = .pointer (some ⟨b,0,none⟩):=hv
  simp[execOp,hv',this]
  rfl
theorem op_load(hcfg:qu P cfg)(hC:qz C cfg){T:TypeId}{x:Operand}(hs:qg P C s a w H Φ)(hd:qF cfg.nt dst=true)(h:qG cfg ⟨dst,.load T x,ty,pos,after,guard⟩ s k=some r):
  ∃s',k s'=some r/\qah P C ⟨dst,.load T x,ty,pos,after,guard⟩ a w s':=by
 simp only[qG]at h
 obtain⟨H,hs⟩:=hs.frzLoad (cfg:=cfg) dst x
 generalize frzLoad cfg s dst x=s at h hs
 split at h
 case h_3=>cases h
 ·rename_i i f n he
  have hr:=qk hs qv he
  cases hq:Nat.beq i 0&&qml cfg T with
  |false=>
   rw[hq,cond_false]at h
   exact qoe hcfg hC hs hd hr h
  |true=>
   rw[hq,cond_true]at h
   rw[Bool.and_eq_true]at hq
   obtain rfl:=Nat.eq_of_beq_eq_true hq.1
   obtain⟨b,cv,h1,h2,hv⟩:=hr
   have hfT:qhK P T=true:=by
    have hq2:=hq.2
    unfold qml at hq2
    split at hq2
    ·rename_i sp hsp
     rw[Nat.eq_of_beq_eq_true hq2]
     exact(hcfg.self sp hsp).2.2
    ·cases hq2
   obtain⟨t,f',hb⟩:=hs.hok b _ h1
   refine⟨_,h,qp hs hC hd (v:=.func (.func f) #[] (cv++[Value.pointer (some ⟨b,0,none⟩)]).toArray) ⟨b,cv,h1,h2,rfl⟩ (λw' hm=>?_)⟩
   have hc:w'.cell? ⟨b,0,none⟩=some (.func (.func f) #[] (cv++[Value.pointer (some ⟨b,0,none⟩)]).toArray):=by
    rw[qy (qdW hm hb)]
    rfl
   unfold qhK at hfT
   split at hfT
   ·rename_i hu
    simp[execOp,hv,Instr.loadAt,Instr.sureAddr,loadVar,isAgg,underlying,hu,hc]
   ·cases hfT
 rename_i av hne he
 clear hne
 have hr:=qk hs qv he
 split at h
 ·rename_i s' htk;exact⟨s',h,take_ok hcfg hC hs hd hr htk⟩
 rename_i htk
 clear htk
 unfold qlz at h
 split at h
 ·rename_i σ y
  cases hT:decide (lk cfg.ty T=some σ)with
  |false=>rw[hT]at h;cases h
  |true=>
   rw[hT,cond_true]at h
   obtain⟨hty,_⟩:=hcfg.ty T _ (of_decide_eq_true hT)
   obtain⟨hf,b,o,blk,hv,hH,hrep⟩:=hr
   obtain⟨t,f,hb⟩:=hs.hok.cells hH
   refine⟨_,h,qp hs hC hd (v:=jZ σ (seg blk o σ.size)) ⟨hf,_,rfl,hrep⟩ (λw' hm=>?_)⟩
   simp[execOp,hv,qbe hty (qdW hm hb) (qm.length σ hrep)]
 ·rename_i id p
  obtain⟨o,y,b,off,h1,h2,h3,h4,hv⟩:=hr
  rw[h1]at h
  simp only[h2,cond_false]at h
  have hyt:=jD _ h3
  rw[hyt]at h
  obtain⟨σ,y⟩:=y
  simp only at h hyt
  cases hT:decide (lk cfg.ty T=some σ.fz)with
  |false=>rw[hT]at h;cases h
  |true=>
   rw[hT,cond_true]at h
   obtain⟨hty,_⟩:=hcfg.ty T _ (of_decide_eq_true hT)
   have hty':=qN.unfz hty
   have hok:=(hs.os id o h1).1
   obtain⟨b',o',hl,blk',t',pre',c,post',f1,f',f2,e1,e2,e3,e4,e5,e6,_⟩:=hok.desc (y:=y) h3 ⟨w,_,_,h4⟩ h2
   obtain⟨rfl,rfl⟩:=jS.det h4 (hl w (λ_ _=>rfl))
   have hseg:seg blk' off σ.size=c:=by rw[<-e3];exact qU e2 (qm.length σ e6)
   have hrun:∀w',jM qV w w'->(execOp a.eval ⟨dst,.load T x,ty,pos,after,guard⟩).run P w' = .ok (.value (jZ σ c)) w':=by
    intro w' hm
    have:=qbe hty' (o:=off) (qdW hm e1) (by rw[hseg];exact qm.length σ e6)
    rw[hseg]at this
    simp[execOp,hv,this]
   cases hfz:σ.isFz with
   |true=>
    rw[hfz,cond_true,jJ,h3]at h
    have hf0:=qm.fz_fp σ hfz e6
    subst hf0
    exact⟨_,h,qp hs hC hd (v:=jZ σ c) ⟨hfz,c,rfl,e6⟩ hrun⟩
   |false=>
    rw[hfz,cond_false]at h
    refine⟨_,h,qp hs hC hd (v:=jZ σ c) ⟨o,⟨σ,y⟩,h1,h3,?_⟩ hrun⟩
    rw[h2]
    exact⟨b,off,blk',t',h4,e1,by rw[hseg]⟩
 ·cases h
theorem qiD{own:Bool}{tid:TypeId}{e:Ty}{l:List e.den}{cs fp}(h:qm P (.list own tid e) w H l cs fp):∃ad cap,jZ (.list own tid e) cs = .slice ad l.length cap:=by
 cases own with
 |false=>obtain⟨_,ad,cap,rfl,_⟩:=h;exact⟨ad,cap,rfl⟩
 |true=>
  obtain⟨hdr,xs,fp',rfl,_,ho,_⟩:=h
  rcases ho.2 with⟨rfl,h0⟩|⟨g,cap,cur,rfl,_⟩
  ·exact⟨none,0,by rw[h0];rfl⟩
  ·exact⟨_,cap,rfl⟩
theorem qlB(hs:qg P C s a w H Φ){av:AV}{v:Value}(hr:qh P C w H Φ s.obj av v){f:Nat->Option R}(h:qjM s av f=some r):∃n,f n=some r/\∃ad cap,v = .slice ad n cap:=by
 unfold qjM at h
 split at h
 ·obtain⟨_,cs,rfl,hrep⟩:=hr
  exact⟨_,h,qiD hrep⟩
 ·rename_i id p
  split at h
  case h_2=>cases h
  rename_i o ho
  rw[jJ]at h
  obtain⟨y,hy,h⟩:=Option.bind_eq_some_iff.1 h
  obtain⟨cs,fp,hv,hrep,_⟩:=qaX hr ho (hs.os id o ho).1 hy
  obtain⟨σ,y⟩:=y
  simp only at h
  split at h
  ·rw[hv];exact⟨_,h,qiD hrep⟩
  ·cases h
 ·obtain⟨o,_,_,_,_,fp,hrep,_⟩:=hr
  refine⟨_,h,?_⟩
  obtain⟨ad,cap,e⟩:=qiD hrep
  exact⟨ad,cap,e⟩
 ·cases h
theorem qgQ{own:Bool}{tid:TypeId}{e:Ty}{l:List e.den}{cs fp}(h:qm P (.list own tid e) w H l cs fp):∃ad cap,jZ (.list own tid e) cs = .slice ad l.length cap/\(ad=none->l.length=0):=by
 cases own with
 |false=>
  obtain⟨_,ad,cap,rfl,_,h⟩:=h
  refine⟨ad,cap,rfl,λe=>?_⟩
  rcases h with h|⟨b,o,blk,h,_⟩
  ·rw[h];rfl
  ·rw[e]at h;cases h
 |true=>
  obtain⟨hdr,xs,fp',rfl,_,ho,_⟩:=h
  rcases ho.2 with⟨rfl,hz⟩|⟨g,cap,cur,rfl,_⟩
  ·have hz':List.length l=0:=hz
   exact⟨none,0,by rw[hz'];rfl,λ_=>hz'⟩
  ·exact⟨_,cap,rfl,λe=>by cases e⟩
theorem qmP(hs:qg P C s a w H Φ){av:AV}{v:Value}(hr:qh P C w H Φ s.obj av v){f:Nat->Option R}(h:qjM s av f=some r):∃n,f n=some r/\∃ad cap,v = .slice ad n cap/\(ad=none->n=0):=by
 unfold qjM at h
 split at h
 ·obtain⟨_,cs,rfl,hrep⟩:=hr
  exact⟨_,h,qgQ hrep⟩
 ·rename_i id p
  split at h
  case h_2=>cases h
  rename_i o ho
  rw[jJ]at h
  obtain⟨y,hy,h⟩:=Option.bind_eq_some_iff.1 h
  obtain⟨cs,fp,hv,hrep,_⟩:=qaX hr ho (hs.os id o ho).1 hy
  obtain⟨σ,y⟩:=y
  simp only at h
  split at h
  ·rw[hv];exact⟨_,h,qgQ hrep⟩
  ·cases h
 ·obtain⟨o,_,_,_,_,fp,hrep,_⟩:=hr
  refine⟨_,h,?_⟩
  obtain⟨ad,cap,e⟩:=qgQ hrep
  exact⟨ad,cap,e⟩
 ·cases h
theorem qjm{t:Option Ty}(h:qcc t=true):∃own tid e,t=some (.list own tid e):=by
 unfold qcc at h
 split at h
 ·exact⟨_,_,_,rfl⟩
 ·cases h
theorem op_binOp(hcfg:qu P cfg)(hC:qz C cfg){op:BinOp}{T T':TypeId}{x y:Operand}(hs:qg P C s a w H Φ)(hd:qF cfg.nt dst=true)(h:qG cfg ⟨dst,.binOp op T x y T',ty,pos,after,guard⟩ s k=some r):
  ∃s',k s'=some r/\qah P C ⟨dst,.binOp op T x y T',ty,pos,after,guard⟩ a w s':=by
 simp only[qG]at h
 cases hq:qcW y&&qcc (lk cfg.ty T)with
 |false=>
  rw[hq,cond_false]at h
  exact qn3 hcfg hC hs hd h
 |true=>
  rw[hq,cond_true]at h
  rw[Bool.and_eq_true]at hq
  obtain⟨hy,hT⟩:=hq
  obtain⟨own,tid,e,hlk⟩:=qjm hT
  have hu:=(hcfg.ty T _ hlk).1.list.1
  have hyv:a.eval y = .slice none 0 0:=by
   unfold qcW at hy
   split at hy
   ·rfl
   ·cases hy
  split at h
  case h_2=>cases h
  rename_i av he
  cases hns:qku s av with
  |some b=>
   rw[hns]at h
   have hr:=qk hs qv he
   unfold qku at hns
   split at hns
   case h_2=>cases hns
   rename_i id
   split at hns
   case h_2=>cases hns
   rename_i o ho
   cases hrow:o.row with
   |false=>rw[hrow]at hns;cases hns
   |true=>
   rw[hrow,cond_true]at hns
   obtain⟨o2,y2,q1,_,q3⟩:=hr
   rw[ho]at q1
   cases q1
   simp only[hrow,List.isEmpty_nil,Bool.and_self]at q3
   have hb:∃ad n cap,a.eval x = .slice ad n cap/\ad.isNone=b:=by
    cases h1:qfz id true with
    |true=>
     rw[h1]at hns
     cases hns
     obtain⟨ad,n,cap,e⟩:=qhY h1 (hs.pins.2 id)
     exact⟨some ad,n,cap,by rw[q3,e],rfl⟩
    |false=>
     rw[h1,cond_false]at hns
     cases h2:qfz id false with
     |true=>
      rw[h2]at hns
      cases hns
      have e:(Φ id).hdr = .slice none 0 0:=qhY h2 (hs.pins.2 id)
      exact⟨none,0,0,by rw[q3,e],rfl⟩
     |false=>rw[h2]at hns;cases hns
   obtain⟨ad,n,cap,hv,rfl⟩:=hb
   simp only at h
   unfold qeE at h
   split at h
   ·exact⟨_,h,qp hs hC hd (qh.mk_bool w H Φ s.obj _) (λw' _=>by simp[execOp,hv,hyv,eqGuard,binOp,run_equal_slice_nil _ T tid _ _ _ hu])⟩
   ·exact⟨_,h,qp hs hC hd (qh.mk_bool w H Φ s.obj _) (λw' _=>by simp[execOp,hv,hyv,eqGuard,binOp,run_equal_slice_nil _ T tid _ _ _ hu])⟩
   ·cases h
  |none=>
  rw[hns]at h
  simp only at h
  obtain⟨n,h,ad,cap,hv,hn⟩:=qmP hs (qk hs qv he) h
  have hk:qeE op ad.isNone (λb=>k (s.setDst dst (.val .bool b)))=some r:=by
   unfold nilK at h
   cases hn0:Nat.beq n 0 with
   |true=>
    rw[hn0,cond_true]at h
    exact qeN h ad.isNone trivial
   |false=>
    rw[hn0,cond_false]at h
    have hne:=Nat.ne_of_beq_eq_false hn0
    cases ad with
    |none=>exact absurd (hn rfl) hne
    |some _=>exact h
  unfold qeE at hk
  split at hk
  ·exact⟨_,hk,qp hs hC hd (qh.mk_bool w H Φ s.obj _) (λw' _=>by simp[execOp,hv,hyv,eqGuard,binOp,run_equal_slice_nil _ T tid _ _ _ hu])⟩
  ·exact⟨_,hk,qp hs hC hd (qh.mk_bool w H Φ s.obj _) (λw' _=>by simp[execOp,hv,hyv,eqGuard,binOp,run_equal_slice_nil _ T tid _ _ _ hu])⟩
  ·cases hk
theorem op_len(hcfg:qu P cfg)(hC:qz C cfg){c:Call}(hc:c.callee = .builtin .len)(hs:qg P C s a w H Φ)(hd:qF cfg.nt dst=true)(h:qG cfg ⟨dst,.call c,ty,pos,after,guard⟩ s k=some r):
  ∃s',k s'=some r/\qah P C ⟨dst,.call c,ty,pos,after,guard⟩ a w s':=by
 simp only[qG,hc]at h
 split at h
 case h_2=>cases h
 rename_i x T hx hT
 split at h
 case h_2=>cases h
 rename_i av he
 have hr:=qk hs qv he
 cases hl:qcc (lk cfg.ty T)with
 |false=>rw[hl]at h;cases h
 |true=>
  rw[hl,cond_true]at h
  obtain⟨n,h,ad,cap,hv⟩:=qlB hs hr h
  obtain⟨own,tid,e,hlk⟩:∃own tid e,lk cfg.ty T=some (.list own tid e):=by
   unfold qcc at hl
   split at hl
   ·exact⟨_,_,_,‹_›⟩
   ·cases hl
  have hu:=(hcfg.ty T _ hlk).1.list.1
  have e2:c=⟨.builtin .len,#[x],#[T]⟩:=by
   obtain⟨c1,c2,c3⟩:=c
   simp only at hc hx hT
   rw[hc,<-Array.toArray_toList (xs:=c2),hx,<-Array.toArray_toList (xs:=c3),hT]
  subst e2
  exact⟨_,h,qp hs hC hd (qh.mk_int w H Φ s.obj _ _) (λw' _=>by simp[execOp,resolve,invoke,builtin,Builtin.len_,hv,run_underlying hu,goInt])⟩
theorem qmK(x y:Int):max x y=if y>x then y else x:=by omega
theorem min_eq(x y:Int):min x y=if y<x then y else x:=by omega
theorem qkf(w:World)(ats:Array TypeId)(t:TypeId)(k:IntKind)(x y z:Int):(Builtin.max_ ats t #[.int k x,.int k y,.int k z]).run P w = .ok (.int k (max (max x y) z)) w:=by
 rw[qmK (max x y) z,qmK x y]
 simp[Builtin.max_,Builtin.max2]
theorem op_max3(_hcfg:qu P cfg)(hC:qz C cfg){c:Call}(hc:c.callee = .builtin .max)(hs:qg P C s a w H Φ)(hd:qF cfg.nt dst=true){i j l:IntKind}{m n q:Int}(he:qbV s (λ_=>none) c.args.toList 0=some [.val (.int i) m,.val (.int j) n,.val (.int l) q])
  (h:(bif (i==j)&&(i==l)then k (s.setDst dst (.val (.int i) (max (max m n) q)))else none)=some r):
  ∃s',k s'=some r/\qah P C ⟨dst,.call c,ty,pos,after,guard⟩ a w s':=by
 have hr:=jV hs (λ_=>qv) he
 cases hij:(i==j)&&(i==l)with
 |false=>rw[hij]at h;cases h
 |true=>
  rw[hij,cond_true]at h
  rw[Bool.and_eq_true]at hij
  have hij':i=j:=by simpa using hij.1
  have hil':i=l:=by simpa using hij.2
  subst hij'
  subst hil'
  obtain⟨c1,c2,c3⟩:=c
  simp only at hc hr
  subst hc
  obtain⟨x,y,z,hxy⟩:∃x y z,c2.toList=[x,y,z]:=by
   match c2.toList,hr with
   |[],hr=>exact hr.elim
   |[_],hr=>exact hr.2.elim
   |[_,_],hr=>exact hr.2.2.elim
   |[x,y,z],_=>exact⟨x,y,z,rfl⟩
   |_::_::_::_::_,hr=>exact hr.2.2.2.elim
  rw[hxy]at hr
  have v1:=hr.1.int
  have v2:=hr.2.1.int
  have v3:=hr.2.2.1.int
  have e2:c2 = #[x,y,z]:=by rw[<-Array.toArray_toList (xs:=c2),hxy]
  subst e2
  exact⟨_,h,qp hs hC hd (qh.mk_int w H Φ s.obj _ _) (λw' _=>by simp[execOp,resolve,invoke,builtin,v1,v2,v3,qkf])⟩
theorem op_max(_hcfg:qu P cfg)(hC:qz C cfg){c:Call}(hc:c.callee = .builtin .max)(hs:qg P C s a w H Φ)(hd:qF cfg.nt dst=true)(h:qG cfg ⟨dst,.call c,ty,pos,after,guard⟩ s k=some r):
  ∃s',k s'=some r/\qah P C ⟨dst,.call c,ty,pos,after,guard⟩ a w s':=by
 simp only[qG,hc]at h
 split at h
 case h_3=>cases h
 case h_2=>exact op_max3 _hcfg hC hc hs hd ‹_› h
 rename_i i m j n he
 have hr:=jV hs (λ_=>qv) he
 cases hij:(i==j)with
 |false=>rw[hij]at h;cases h
 |true=>
  rw[hij,cond_true]at h
  have hij':i=j:=by simpa using hij
  subst hij'
  obtain⟨c1,c2,c3⟩:=c
  simp only at hc hr
  subst hc
  obtain⟨x,y,hxy⟩:∃x y,c2.toList=[x,y]:=by
   match c2.toList,hr with
   |[],hr=>exact hr.elim
   |[_],hr=>exact hr.2.elim
   |[x,y],_=>exact⟨x,y,rfl⟩
   |_::_::_::_,hr=>exact hr.2.2.elim
  rw[hxy]at hr
  have v1:=hr.1.int
  have v2:=hr.2.1.int
  have e2:c2 = #[x,y]:=by rw[<-Array.toArray_toList (xs:=c2),hxy]
  subst e2
  refine⟨_,h,qp hs hC hd (qh.mk_int w H Φ s.obj _ _) (λw' _=>?_)⟩
  rw[qmK]
  simp[execOp,resolve,invoke,builtin,v1,v2,run_max_int2]
theorem op_min(_hcfg:qu P cfg)(hC:qz C cfg){c:Call}(hc:c.callee = .builtin .min)(hs:qg P C s a w H Φ)(hd:qF cfg.nt dst=true)(h:qG cfg ⟨dst,.call c,ty,pos,after,guard⟩ s k=some r):
  ∃s',k s'=some r/\qah P C ⟨dst,.call c,ty,pos,after,guard⟩ a w s':=by
 simp only[qG,hc]at h
 split at h
 case h_2=>cases h
 rename_i i m j n he
 have hr:=jV hs (λ_=>qv) he
 cases hij:(i==j)with
 |false=>rw[hij]at h;cases h
 |true=>
  rw[hij,cond_true]at h
  have hij':i=j:=by simpa using hij
  subst hij'
  obtain⟨c1,c2,c3⟩:=c
  simp only at hc hr
  subst hc
  obtain⟨x,y,hxy⟩:∃x y,c2.toList=[x,y]:=by
   match c2.toList,hr with
   |[],hr=>exact hr.elim
   |[_],hr=>exact hr.2.elim
   |[x,y],_=>exact⟨x,y,rfl⟩
   |_::_::_::_,hr=>exact hr.2.2.elim
  rw[hxy]at hr
  have v1:=hr.1.int
  have v2:=hr.2.1.int
  have e2:c2 = #[x,y]:=by rw[<-Array.toArray_toList (xs:=c2),hxy]
  subst e2
  refine⟨_,h,qp hs hC hd (qh.mk_int w H Φ s.obj _ _) (λw' _=>?_)⟩
  rw[min_eq]
  simp[execOp,resolve,invoke,builtin,v1,v2,run_min_int2]
theorem qeO{tid:Nat}{e:Ty}{o:Bool}{l:List e.den}{x:Operand}{a:Act}{τ:Option Ty}{s:St}(hx:∃v,x = .const v)(he:qI s τ x=some (.val (.list o tid e) l)):
  a.eval x = .slice none 0 0/\l=[]:=by
 obtain⟨v,rfl⟩:=hx
 simp only[qI]at he
 unfold qgp at he
 split at he
 ·cases he
 ·cases he
 ·split at he
  ·cases he;exact⟨rfl,rfl⟩
  ·cases he
 ·split at he
  ·cases he
  ·cases he
 ·cases he
 ·cases he
 ·cases he
 ·cases he
theorem qg.commit(hs:qg P C s a w H Φ)(hC:qz C cfg){id:Nat}{tid:TypeId}{e:Ty}{l:List e.den}{v:Value}(hr:qh P C w H Φ s.obj (.upd id [] tid e l) v){o:Obj}(ho:s.obj id=some o)(hrow:o.row=true)(hid:id<4000000):
  ∃fp,qg P C (s.newObj id true (.list true tid e) l) a w H (qaQ Φ id ⟨0,v,fp⟩):=by
 obtain⟨o',h1,h3,h4,fp,h0,h5,h6⟩:=hr
 rw[ho]at h1
 cases h1
 refine⟨fp,hs.newObj (jM.refl _ _) (hC.pin id (Nat.lt_trans hid (by decide))) (qbb hid) ⟨by simpa[Ty.noFx,Ty.noFn]using h3,h0,rfl,[v],rfl,h5⟩ ?_⟩
 intro b hb
 obtain⟨hlt,h7⟩:=h6 b hb
 rcases h7 with hf|q1
 ·exact⟨hf.fz,hf.may,hlt,λj o' _ hj=>hf.obj j o' hj⟩
 ·unfold qb0 at q1
  rw[hrow]at q1
  simp only[List.isEmpty_nil,Bool.and_self]at q1
  obtain⟨q3,q4,q5⟩:=(hs.os id o ho).2 b q1
  exact⟨q3,q4,hlt,λj o' hj hoj=>hs.disj id j o o' (λe=>hj e.symm) ho hoj b q1⟩
theorem qg.commitMove(hs:qg P C s a w H Φ)(hC:qz C cfg){id:Nat}{tid:TypeId}{e:Ty}{l:List e.den}{v:Value}(hr:qh P C w H Φ s.obj (.upd id [] tid e l) v){o:Obj}(ho:s.obj id=some o)(hrow:o.row=true){d:Nat}(hd:d<4000000):
  ∃fp,qg P C (((s.kill id).setObj id none).newObj d true (.list true tid e) l) a w H (qaQ Φ d ⟨0,v,fp⟩):=by
 obtain⟨o',h1,h3,h4,fp,h0,h5,h6⟩:=hr
 rw[ho]at h1
 cases h1
 have hob:∀j o',((s.kill id).setObj id none).obj j=some o'->s.obj j=some o'/\j≠id:=by
  intro j o' hj
  rw[St.obj_setObj]at hj
  split at hj
  ·cases hj
  ·rename_i hne;exact⟨hj,λe=>hne e.symm⟩
 refine⟨fp,(hs.remove id).newObj (jM.refl _ _) (hC.pin d (Nat.lt_trans hd (by decide))) (qbb hd) ⟨by simpa[Ty.noFx,Ty.noFn]using h3,h0,rfl,[v],rfl,h5⟩ ?_⟩
 intro b hb
 obtain⟨hlt,h7⟩:=h6 b hb
 rcases h7 with hf|q1
 ·exact⟨hf.fz,hf.may,hlt,λj o' _ hj=>hf.obj j o' (hob j o' hj).1⟩
 ·unfold qb0 at q1
  rw[hrow]at q1
  simp only[List.isEmpty_nil,Bool.and_self]at q1
  obtain⟨q3,q4,q5⟩:=(hs.os id o ho).2 b q1
  exact⟨q3,q4,hlt,λj o' _ hoj=>hs.disj id j o o' (λe=>(hob j o' hoj).2 e.symm) ho (hob j o' hoj).1 b q1⟩
theorem qg.frzSite(hs:qg P C s a w H Φ)(d:Option Nat)(x:Operand):∃H',qg P C (frzSite cfg s d x) a w H' Φ:=by
 unfold Go.Vi.frzSite
 split
 ·exact⟨H,hs⟩
 ·exact⟨H,hs⟩
 ·split
  ·obtain⟨H',_,_,_,h⟩:=hs.freeze _
   exact⟨H',h⟩
  ·exact⟨H,hs⟩
 ·exact⟨H,hs⟩
theorem qg.frzOp(hs:qg P C s a w H Φ)(x:Operand):∃H',qg P C (frzOp s x) a w H' Φ:=by
 unfold Go.Vi.frzOp
 split
 ·split
  ·rename_i o _
   cases o.row&&_ with
   |true=>exact⟨H,hs⟩
   |false=>
    obtain⟨H',_,_,_,h⟩:=hs.freeze _
    exact⟨H',h⟩
  ·exact⟨H,hs⟩
 ·exact⟨H,hs⟩
theorem qec(hcfg:qu P cfg)(hC:qz C cfg){x:Operand}(hs:qg P C s a w H Φ)(hd:qF cfg.nt dst=true){av:AV}(he:qI s (lk cfg.ty ty) x=some av)(h:qfd s dst x av k=some r):
  ∃s',k s'=some r/\qah P C ⟨dst,.assign x,ty,pos,after,guard⟩ a w s':=by
 have hrun:∀w',jM qV w w'->(execOp a.eval ⟨dst,.assign x,ty,pos,after,guard⟩).run P w' = .ok (.value (a.eval x)) w':=λw' _=>rfl
 have hr:=qk hs (hcfg.fz ty) he
 unfold qfd at h
 split at h
 ·rename_i v own tid e l
  split at h
  case h_2=>cases h
  rename_i d
  cases hfn:e.noFn with
  |false=>rw[hfn]at h;cases h
  |true=>
  rw[hfn,cond_true]at h
  obtain⟨hv,rfl⟩:=qeO (a:=a) ⟨v,rfl⟩ he
  have hd':d<C.nt:=by rw[hC.nt];exact Eq.mp Nat.blt_eq hd
  have hd2:d<4000000:=by have:=hcfg.small;rw[<-hC.nt]at this;omega
  have hfz:=hr.1
  simp only[Ty.isFz,Bool.and_eq_true]at hfz
  have hn:qg P C (s.newObj d true (.list true tid e) []) a w H (qaQ Φ d ⟨0,.slice none 0 0,[]⟩):=
   hs.newObj (jM.refl _ _) (hC.pin d (Nat.lt_trans hd2 (by decide))) (qbb hd2) ⟨by simpa[Ty.noFx,Ty.noFn]using hfn,by simp,rfl,[.slice none 0 0],rfl,⟨.slice none 0 0,[],[],rfl,rfl,World.ownsRow_nil w 0 tid e.size,rfl,rfl⟩⟩ (by simp)
  rw[hv]at hrun
  refine⟨_,h,qcn hrun ⟨H,_,hn.set hd' (v:=.slice none 0 0) ⟨⟨true,.list true tid e,[]⟩,⟨.list true tid e,[]⟩,?_,qH _ _,?_⟩⟩⟩
  ·rw[St.newObj,St.obj_setObj,if_pos rfl]
  ·simp only[List.isEmpty_nil,Bool.and_self,qr]
 ·rename_i x' id tid e l
  split at h
  case h_2=>cases h
  rename_i o ho
  cases hrw:o.row&&Nat.blt id 4000000 with
  |false=>
   rw[hrw,cond_false]at h
   split at h
   case h_2=>cases h
   rename_i d
   cases hrw2:o.row && !Nat.beq id d with
   |false=>rw[hrw2]at h;cases h
   |true=>
   rw[hrw2,cond_true]at h
   rw[Bool.and_eq_true]at hrw2
   have hd':d<C.nt:=by rw[hC.nt];exact Eq.mp Nat.blt_eq hd
   have hd2:d<4000000:=by have:=hcfg.small;rw[<-hC.nt]at this;omega
   obtain⟨_,hn⟩:=hs.commitMove hC hr ho hrw2.1 hd2
   refine⟨_,h,qcn hrun ⟨H,_,hn.set hd' ⟨⟨true,.list true tid e,l⟩,⟨.list true tid e,l⟩,?_,qH _ _,?_⟩⟩⟩
   ·rw[St.newObj,St.obj_setObj,if_pos rfl]
   ·simp only[List.isEmpty_nil,Bool.and_self,qr]
  |true=>
   rw[hrw,cond_true]at h
   rw[Bool.and_eq_true]at hrw
   split at h
   case h_2=>cases h
   have hid:id<4000000:=Eq.mp Nat.blt_eq hrw.2
   obtain⟨_,hn⟩:=hs.commit hC hr ho hrw.1 hid
   refine⟨_,h,qcn hrun ⟨H,_,hn.setDst (by rw[hC.nt];exact hd) ⟨⟨true,.list true tid e,l⟩,⟨.list true tid e,l⟩,?_,qH _ _,?_⟩⟩⟩
   ·rw[St.newObj,St.obj_setObj,if_pos rfl]
   ·simp only[List.isEmpty_nil,Bool.and_self,qr]
 ·exact⟨_,h,qp hs hC hd hr hrun⟩
theorem qmz(hcfg:qu P cfg)(hC:qz C cfg){x:Operand}(hs:qg P C s a w H Φ)(hd:qF cfg.nt dst=true){av:AV}(he:qI s (lk cfg.ty ty) x=some av)(h:qkv s dst x av k=some r):
  ∃s',k s'=some r/\qah P C ⟨dst,.assign x,ty,pos,after,guard⟩ a w s':=by
 unfold qkv at h
 split at h
 ·rename_i v own tid e l d
  have hrun:∀w',jM qV w w'->(execOp a.eval ⟨some d,.assign (.const v),ty,pos,after,guard⟩).run P w' = .ok (.value (a.eval (.const v))) w':=λw' _=>rfl
  cases hfn:e.noFn with
  |false=>rw[hfn]at h;cases h
  |true=>
  rw[hfn,cond_true]at h
  obtain⟨hv,rfl⟩:=qeO (a:=a) ⟨v,rfl⟩ he
  have hd':d<C.nt:=by rw[hC.nt];exact Eq.mp Nat.blt_eq hd
  have hd2:d<3000000:=by have:=hcfg.small;rw[<-hC.nt]at this;omega
  have hn:qg P C (s.newObj (7000000+d) true (.list true tid e) []) a w H (qaQ Φ (7000000+d) ⟨0,.slice none 0 0,[]⟩):=
   hs.newObj (jM.refl _ _) (hC.pin (7000000+d) (by omega)) (qi5 (nn:=false) hd2 rfl) ⟨by simpa[Ty.noFx,Ty.noFn]using hfn,by simp,rfl,[.slice none 0 0],rfl,⟨.slice none 0 0,[],[],rfl,rfl,World.ownsRow_nil w 0 tid e.size,rfl,rfl⟩⟩ (by simp)
  rw[hv]at hrun
  refine⟨_,h,qcn hrun ⟨H,_,hn.set hd' (v:=.slice none 0 0) ⟨⟨true,.list true tid e,[]⟩,⟨.list true tid e,[]⟩,?_,qH _ _,?_⟩⟩⟩
  ·rw[St.newObj,St.obj_setObj,if_pos rfl]
  ·simp only[List.isEmpty_nil,Bool.and_self,qr]
 ·exact qec hcfg hC hs hd he h
theorem qlp(hcfg:qu P cfg)(hC:qz C cfg){x:Operand}(hs:qg P C s a w H Φ)(hd:qF cfg.nt dst=true){av:AV}(he:qI s (lk cfg.ty ty) x=some av)(h:qit s dst x av k=some r):
  ∃s',k s'=some r/\qah P C ⟨dst,.assign x,ty,pos,after,guard⟩ a w s':=by
 unfold qit at h
 split at h
 ·rename_i id d
  split at h
  case h_2=>cases h
  rename_i o ho
  cases hq:o.row && !Nat.beq id d with
  |false=>rw[hq,cond_false]at h;exact qec hcfg hC hs hd he h
  |true=>
  rw[hq,cond_true]at h
  rw[Bool.and_eq_true]at hq
  have hr:=qk hs (hcfg.fz ty) he
  have hrun:∀w',jM qV w w'->(execOp a.eval ⟨some d,.assign x,ty,pos,after,guard⟩).run P w' = .ok (.value (a.eval x)) w':=λw' _=>rfl
  have hdl:d<cfg.nt:=Eq.mp Nat.blt_eq hd
  have hd2:d<4000000:=Nat.lt_of_lt_of_le hdl (Nat.le_trans hcfg.small (by decide))
  obtain⟨h1,h2⟩:=hs.os id o ho
  obtain⟨row,τ,y⟩:=o
  cases row with
  |false=>cases hq.1
  |true=>
  have hob:∀j o,((s.kill id).setObj id none).obj j=some o->s.obj j=some o/\j≠id:=by
   intro j o hj
   rw[St.obj_setObj]at hj
   split at hj
   ·cases hj
   ·rename_i hne;exact⟨hj,λe=>hne e.symm⟩
  have hn1:=(hs.remove id).newObj (jM.refl _ _) (hC.pin d (Nat.lt_trans hd2 (by decide))) (qbb hd2) (row:=true) (τ:=τ) (x:=y) (φ:=Φ id) h1 (by
   intro b hb
   obtain⟨p1,p2,p3⟩:=h2 b hb
   exact⟨p1,p2,p3,λj o' _ hj=>hs.disj id j _ o' (λe=>(hob j o' hj).2 e.symm) ho (hob j o' hj).1 b hb⟩)
  obtain⟨o',z,q1,_,q3⟩:=hr
  rw[ho]at q1
  cases q1
  refine⟨_,h,qcn hrun ⟨H,_,hn1.set (by rw[hC.nt];exact hdl) ⟨⟨true,τ,y⟩,⟨τ,y⟩,?_,qH _ _,?_⟩⟩⟩
  ·rw[St.newObj,St.obj_setObj,if_pos rfl]
  ·simp only[List.isEmpty_nil,Bool.and_self,qr]
   exact q3
 ·exact qec hcfg hC hs hd he h
theorem qmE(hcfg:qu P cfg)(hC:qz C cfg){x:Operand}(hs:qg P C s a w H Φ)(hd:qF cfg.nt dst=true)(h:qi8 cfg s dst ty x k=some r):
  ∃s',k s'=some r/\qah P C ⟨dst,.assign x,ty,pos,after,guard⟩ a w s':=by
 have hrun:∀w',jM qV w w'->(execOp a.eval ⟨dst,.assign x,ty,pos,after,guard⟩).run P w' = .ok (.value (a.eval x)) w':=λw' _=>rfl
 unfold qi8 at h
 split at h
 case h_2=>cases h
 rename_i av he
 have hr:=qk hs (hcfg.fz ty) he
 cases hbs:qiG (dst.bind (lk cfg.site))with
 |true=>
  rw[hbs,cond_true]at h
  exact qmz hcfg hC hs hd he h
 |false=>
 rw[hbs,cond_false]at h
 cases hms:qiF (dst.bind (lk cfg.site))with
 |true=>
  rw[hms,cond_true]at h
  exact qlp hcfg hC hs hd he h
 |false=>
 rw[hms,cond_false]at h
 cases hsite:(dst.bind (lk cfg.site)).isSome with
 |true=>
  rw[hsite,cond_true]at h
  exact⟨_,h,qp hs hC hd hr hrun⟩
 |false=>
 rw[hsite,cond_false]at h
 exact qec hcfg hC hs hd he h
theorem qn4(hcfg:qu P cfg)(hC:qz C cfg){x:Operand}(hs:qg P C s a w H Φ)(hd:qF cfg.nt dst=true)(h:qG cfg ⟨dst,.assign x,ty,pos,after,guard⟩ s k=some r):
  ∃s',k s'=some r/\qah P C ⟨dst,.assign x,ty,pos,after,guard⟩ a w s':=by
 simp only[qG]at h
 obtain⟨H',hs'⟩:=hs.frzSite (cfg:=cfg) dst x
 exact qmE hcfg hC hs' hd h
end
end Go.Vi
namespace Go.Vi
section
variable {P:Program} {C:Ctx} {cfg:jG} {R:Type} {r:R} {s:St} {a:Act} {w:World} {H:FH} {Φ:Nat->qB} {dst:Option Nat} {ty:TypeId} {pos:String} {after:Array Edge} {guard:Option (Nat×Bool)} {k:St->Option R}
theorem qcl:(τ:Ty)->∀{x:τ.den} {p:List qq} {y},qP τ x p=some y->j1 τ x p y.1 y.2=some x
 |.pair a b,x,p,y,h=>by
  match p with
  |[]=>cases h;simp[j1,qA]
  |.L::q=>simp only[j1,qcl a h,Option.map_some]
  |.R::q=>simp only[j1,qcl b h,Option.map_some]
  |.I _::_=>cases h
 |.str t,x,p,y,h=>by
  match p with
  |[]=>cases h;simp[j1,qA]
  |s::q=>exact qcl t h
 |.list true tid e,x,p,y,h=>by
  match p with
  |[]=>cases h;simp[j1,qA]
  |.L::_=>cases h
  |.R::_=>cases h
  |.I i::r=>
   simp only[qP,j1]at h ⊢
   split at h
   ·rename_i hi
    rw[if_pos hi]
    obtain⟨z,hz,h⟩:=Option.bind_eq_some_iff.1 h
    rw[hz]
    simp only[Option.bind_some,qcl e h,Option.map_some]
    congr 1
    apply List.ext_getElem?
    intro j
    rw[List.getElem?_set]
    split
    ·rename_i e;subst e;split<;>simp_all
    ·rfl
   ·cases h
 |.arr n e,x,p,y,h=>by
  match p with
  |[]=>cases h;simp[j1,qA]
  |.L::_=>cases h
  |.R::_=>cases h
  |.I i::r=>
   simp only[qP,j1]at h ⊢
   split at h
   ·rename_i hi
    rw[if_pos hi]
    obtain⟨z,hz,h⟩:=Option.bind_eq_some_iff.1 h
    rw[hz]
    simp only[Option.bind_some,qcl e h,Option.map_some]
    congr 1
    apply List.ext_getElem?
    intro j
    rw[List.getElem?_set]
    split
    ·rename_i e;subst e;split<;>simp_all
    ·rfl
   ·cases h
 |.op t,x,p,y,h=>by
  match p with
  |[]=>cases h;simp[j1,qA]
  |.L::_=>cases h
  |.R::_=>cases h
  |.I i::r=>
   simp only[qP,j1]at h ⊢
   obtain⟨z,rfl,h⟩:=Option.bind_eq_some_iff.1 h
   simp only[Option.bind_some,qcl t h,Option.map_some]
 |.int _,x,p,_,h=>by cases p<;>cases h;simp[j1,qA]
 |.bool,x,p,_,h=>by cases p<;>cases h;simp[j1,qA]
 |.list false _ _,x,p,_,h=>by cases p<;>cases h;simp[j1,qA]
 |.ptr _,x,p,_,h=>by cases p<;>cases h;simp[j1,qA]
 |.fn _ _,x,p,_,h=>by cases p<;>cases h;simp[j1,qA]
 |.fn2 _ _ _,x,p,_,h=>by cases p<;>cases h;simp[j1,qA]
 |.ext _ _ _ _,x,p,_,h=>by cases p<;>cases h;simp[j1,qA]
def qfx(P:Program)(w:World)(H:FH)(e:Ty)(l:List e.den)(v:Value):Prop:=
 (l=[]/\v = .slice none 0 0)\/∃b o cap xs,v = .slice (some ⟨b,o,none⟩) l.length cap/\qe (qm P e w H) l xs []/\∀j u,xs[j]? = some u->w.cell? ((⟨b,o,none⟩:Addr).add j)=some u
theorem qgq{b o n:Nat}{blk:Array Value}{t:TypeId}{f:Nat×Nat}(hb:w.heap[b]? = some (.cells blk t f)):∀j u,(seg blk o n)[j]? = some u->w.cell? ((⟨b,o,none⟩:Addr).add j)=some u:=by
 intro j u hj
 unfold seg at hj
 rw[List.getElem?_take]at hj
 split at hj
 ·rw[Addr.add_none,qy hb,<-Array.getElem?_toList]
  rw[List.getElem?_drop]at hj
  exact hj
 ·cases hj
theorem qm.elems{own:Bool}{tid:TypeId}{e:Ty}(he:e.isFz=true)(hok:HOk H w){l:List e.den}{cs fp}(h:qm P (.list own tid e) w H l cs fp):qfx P w H e l (jZ (.list own tid e) cs)\/(l=[]/\∃ad cap,jZ (.list own tid e) cs = .slice ad 0 cap):=by
 cases own with
 |false=>
  obtain⟨_,ad,cap,rfl,hc,hl⟩:=h
  rcases hl with rfl|⟨b,o,blk,rfl,hH,hch⟩
  ·exact .inr ⟨rfl,ad,cap,rfl⟩
  ·obtain⟨t,f,hb⟩:=hok.cells hH
   exact .inl (.inr ⟨b,o,cap,_,rfl,hch,qgq hb⟩)
 |true=>
  obtain⟨hdr,xs,fp',rfl,_,ho,hch⟩:=h
  have hf:=qe.fp_nil (λ_ _ _ hh=>qm.fz_fp e he hh) hch
  subst hf
  rcases ho.2 with⟨rfl,h0⟩|⟨g,cap,cur,rfl,_,hg,_,_,_,htake⟩
  ·exact .inl (.inl ⟨List.length_eq_zero_iff.1 h0,rfl⟩)
  ·refine .inl (.inr ⟨g,0,cap,xs,rfl,hch,?_⟩)
   rw[<-htake,<-qdR]
   exact qgq hg
theorem qe6{b c:Bool}{tid tid':Nat}{σ e:Ty}{l:List σ.den}{y:List e.den}(h:qA (.list b tid σ) (.list c tid' e) l=some y):b=c/\tid=tid'/\∃he:σ=e,y=he▸l:=by
 obtain⟨e1,h2⟩:=qf h
 have e2:=e1
 injection e2 with e3 e4 e5
 subst e3;subst e4;subst e5
 exact⟨rfl,rfl,rfl,h2⟩
theorem qfa(hs:qg P C s a w H Φ){av:AV}{v:Value}(hr:qh P C w H Φ s.obj av v){e:Ty}(he:e.isFz=true){f:List e.den->Option R}(h:qg2 s av e f=some r):
  ∃l,f l=some r/\(qfx P w H e l v\/(l=[]/\∃ad cap,v = .slice ad 0 cap)):=by
 unfold qg2 at h
 split at h
 ·rename_i o tid σ l
  rw[qi]at h
  replace h:=Option.bind_eq_some_iff.1 h
  obtain⟨y,hy,h⟩:=h
  obtain⟨_,_,rfl,rfl⟩:=qe6 hy
  obtain⟨_,cs,rfl,hrep⟩:=hr
  exact⟨_,h,qm.elems he hs.hok hrep⟩
 ·rename_i id p
  split at h
  case h_2=>cases h
  rename_i o ho
  rw[jJ]at h
  obtain⟨y,hy,h⟩:=Option.bind_eq_some_iff.1 h
  obtain⟨cs,fp,hv,hrep,_⟩:=qaX hr ho (hs.os id o ho).1 hy
  obtain⟨σ,y⟩:=y
  simp only at h
  split at h
  ·rw[qi]at h
   replace h:=Option.bind_eq_some_iff.1 h
   obtain⟨y,hy',h⟩:=h
   obtain⟨_,_,rfl,rfl⟩:=qe6 hy'
   rw[hv]
   exact⟨_,h,qm.elems he hs.hok hrep⟩
  ·cases h
 ·rename_i id p tid σ l
  rw[qi]at h
  replace h:=Option.bind_eq_some_iff.1 h
  obtain⟨y,hy,h⟩:=h
  obtain⟨_,_,rfl,rfl⟩:=qe6 hy
  obtain⟨o,_,_,_,fp,_,hrep,_⟩:=hr
  refine⟨_,h,?_⟩
  have:=qm.elems he hs.hok hrep
  exact this
 ·cases h
theorem qfx.one{e:Ty}{l:List e.den}{xs:List Value}(h:qe (qm P e w H) l xs []):∀u∈xs,u.oneCell'=true:=qe.all (λ_ _ _ hh=>qm.one e hh) h
def RawEl(w:World)(size:Nat)(x:Value)(m:Nat)(news:List Value):Prop:=
 (m=0/\news=[]/\∃ad cap,x = .slice ad 0 cap)\/∃b o cap,x = .slice (some ⟨b,o,none⟩) m cap/\news.length=m*size/\∀j u,news[j]? = some u->w.cell? ((⟨b,o,none⟩:Addr).add j)=some u
theorem qfx.raw{e:Ty}{l:List e.den}{v:Value}(h:qfx P w H e l v\/(l=[]/\∃ad cap,v = .slice ad 0 cap)):∃news,RawEl w e.size v l.length news/\qe (qm P e w H) l news []:=by
 rcases h with(⟨rfl,rfl⟩|⟨b,o,cap,xs,rfl,hch,hc⟩)|⟨rfl,ad,cap,rfl⟩
 ·exact⟨[],.inl ⟨rfl,rfl,none,0,rfl⟩,rfl,rfl⟩
 ·exact⟨xs,.inr ⟨b,o,cap,rfl,qe.length (λ_ _ _ hh=>qm.length e hh) hch,hc⟩,hch⟩
 ·exact⟨[],.inl ⟨rfl,rfl,ad,cap,rfl⟩,rfl,rfl⟩
theorem qde{t e:TypeId}{τ:Ty}(hu:P.underlying t=some (.slice e))(he:qN P e τ)(ty:TypeId){v:Value}{n:Nat}{xs:List Value}(hown:w.ownsRow 0 e τ.size v n xs)
  {m:Nat} {news:List Value} {x:Value} (hx:RawEl w τ.size x m news) (h1:∀u∈news,u.oneCell'=true) (hlen:n+m<=274877906944):
  ∃v' w',(Builtin.append_ #[t,t] ty #[v,x]).run P w = .ok v' w'/\w'.ownsRow 0 e τ.size v' (n+m) (xs++news)/\w'.ownsRow 0 e τ.size v n xs/\w.grownBy w' v.ownBlock/\
   (v'.ownBlock=v.ownBlock\/∃g,v'.ownBlock=some g/\w.heap.size<=g/\g<w'.heap.size):=by
 obtain⟨i,hi,hsz,hpos,hby,hz⟩:=he.info
 have hzs:(jZ τ τ.zeroCells).cells.size=τ.size:=by
  rw[<-Array.length_toList,qbc (by rintro x y rfl;exact he.not_pair) (Ty.zero_length τ) (Ty.zero_one τ),Ty.zero_length]
 have hnone:m=0->news=[]->∀ad cap,x = .slice ad 0 cap->∃v' w',(Builtin.append_ #[t,t] ty #[v,x]).run P w = .ok v' w'/\w'.ownsRow 0 e τ.size v' (n+m) (xs++news)/\w'.ownsRow 0 e τ.size v n xs/\w.grownBy w' v.ownBlock/\
   (v'.ownBlock=v.ownBlock\/∃g,v'.ownBlock=some g/\w.heap.size<=g/\g<w'.heap.size):=by
  rintro rfl rfl ad cap rfl
  refine⟨v,w,?_,by simpa using hown,hown,⟨rfl,rfl,rfl,Nat.le_refl _,λ_ _ _=>rfl⟩,.inl rfl⟩
  rcases hown.2 with⟨rfl,rfl⟩|⟨g,cp,cur,rfl,_,hg,hnc,_⟩
  ·cases ad<;>simp[Builtin.append_,run_underlying hu,Go.sizeOf,typeInfo,hi,Builtin.lenOf,Builtin.firstCells,loadCells,loadCellsFrom]
  ·cases ad<;>simp[Builtin.append_,run_underlying hu,Go.sizeOf,typeInfo,hi,Builtin.lenOf,Builtin.firstCells,loadCells,loadCellsFrom,hnc,storeCells]
 rcases hx with⟨hl0,hn0,ad,cap,hxe⟩|⟨b,o,cap,rfl,hl,hcells⟩
 ·exact hnone hl0 hn0 ad cap hxe
 ·have hl:news.length=m*i.size:=by rw[hsz];exact hl
  by_cases hm:m=0
  ·exact hnone hm (List.eq_nil_of_length_eq_zero (by rw[hl,hm,Nat.zero_mul])) _ _ (by rw[hm])
  have hown':w.ownsRow 0 e i.size v n xs:=by rw[hsz];exact hown
  have hlen2:(xs++news).length=(n+m)*τ.size:=by rw[List.length_append,hown.1,hl,Nat.add_mul,hsz]
  have hbytes:(n+m)*i.bytes<=140737488355328:=by
   have:=Nat.mul_le_mul hlen hby;omega
  have h63:n+m<=maxLen:=by unfold maxLen;omega
  have grown:∀old,w.drew.heap.size=w.heap.size->∃v',v'=Value.slice (some ⟨w.heap.size,0,none⟩) (n+m) (grownCap w (n+m) old e)/\
    (w.drew.alloc (.cells (xs.toArray++news.toArray++Builtin.zeroCells (jZ τ τ.zeroCells).cells (grownCap w (n+m) old e-(n+m))) e)).ownsRow 0 e τ.size v' (n+m) (xs++news):=by
   intro old _
   have hge:=grownCap_ge w (n+m) old e
   have hcm:=grownCap_le_maxLen w (n+m) old e h63
   refine⟨_,rfl,hlen2,.inr ⟨w.heap.size,_,_,rfl,Nat.zero_le _,heap_alloc_new w.drew _,hge,hcm,?_,?_⟩⟩
   ·simp only[Array.size_append,List.size_toArray,size_zeroCells,hzs,hown.1,hl,hsz,<-Nat.add_mul]
    congr 1
    omega
   ·simp only[Array.toList_append,List.append_assoc]
    rw[<-List.append_assoc,<-hlen2]
    exact List.take_left
  rcases hown.2 with⟨rfl,rfl⟩|⟨g,cp,cur,rfl,_,hg,hnc,hcm,hcs,htake⟩
  ·have hxs:xs=[]:=List.eq_nil_of_length_eq_zero (by simpa using hown.1)
   subst hxs
   have hr:=run_append_nil (P:=P) w t ty e i _ hu hi hz ⟨b,o,none⟩ m cap news hl hcells (by omega) (by omega) (by simp only[Nat.zero_add]at hbytes;omega)
   obtain⟨v',rfl,hgr⟩:=grown 0 rfl
   simp only[Nat.zero_add,List.nil_append,Array.empty_append]at hgr ⊢
   refine⟨_,_,hr,hgr,World.ownsRow_nil _ _ _ _,⟨rfl,rfl,rfl,by simp,λk hk _=>heap_alloc_old w.drew _ hk⟩,.inr ⟨w.heap.size,rfl,Nat.le_refl _,by simp⟩⟩
  ·by_cases hroom:n+m<=cp
   ·have hfit:n*i.size+news.length<=cur.size:=by rw[hl,hcs,hsz,<-Nat.add_mul];exact Nat.mul_le_mul_right _ hroom
    have hr:=run_append_room (P:=P) w t ty e i hu hi g n cp cur hg ⟨b,o,none⟩ m cap news hl hcells h1 hroom hfit
    rw[hsz]at hr hfit
    have htk:(cur.toList.take (n*τ.size)).length=n*τ.size:=by rw[htake,hown.1]
    refine⟨_,_,hr,⟨hlen2,.inr ⟨g,cp,_,rfl,Nat.zero_le _,setRow_heap w g cur _ e _ hg,hroom,hcm,?_,?_⟩⟩,⟨hown.1,.inr ⟨g,cp,_,rfl,Nat.zero_le _,setRow_heap w g cur _ e _ hg,hnc,hcm,?_,?_⟩⟩,
     ⟨rfl,rfl,rfl,by simp,λk _ hk=>setRow_other w g k _ (λe=>hk (by simp[Value.ownBlock,e]))⟩,.inl rfl⟩
    ·simp only[List.size_toArray,List.length_append,List.length_take,List.length_drop,Array.length_toList]
     omega
    ·rw[htake,<-hlen2]
     exact List.take_left
    ·simp only[List.size_toArray,List.length_append,List.length_take,List.length_drop,Array.length_toList]
     omega
    ·show List.take (n*τ.size) (cur.toList.take (n*τ.size)++news++_)=xs
     rw[List.append_assoc,List.take_append_of_le_length (by rw[htk];exact Nat.le_refl _),List.take_take,Nat.min_self,htake]
   ·have holds:∀j u,xs[j]? = some u->w.cell? ((⟨g,0,none⟩:Addr).add j)=some u:=hown.cells (g:=g) rfl
    have hr:=run_append_grow (P:=P) w t ty e i _ hu hi hz ⟨g,0,none⟩ n cp xs (by rw[hsz];exact hown.1) holds ⟨b,o,none⟩ m cap news hl hcells (by omega) (by omega) (growslice_fits (by omega) hbytes)
    obtain⟨v',rfl,hgr⟩:=grown cp rfl
    refine⟨_,_,hr,hgr,?_,⟨rfl,rfl,rfl,by simp,λk hk _=>heap_alloc_old w.drew _ hk⟩,.inr ⟨w.heap.size,rfl,Nat.le_refl _,by simp⟩⟩
    exact(hown.alloc (w:=w) _:(w.alloc _).ownsRow _ _ _ _ _ _)
theorem qib{t e:TypeId}{τ:Ty}(hu:P.underlying t=some (.slice e))(he:qN P e τ)(ty:TypeId){v:Value}{n:Nat}{xs:List Value}(hown:w.ownsRow 0 e τ.size v n xs)
  {l:List τ.den} {x:Value} (hx:qfx P w H τ l x\/(l=[]/\∃ad cap,x = .slice ad 0 cap)) (hlen:n+l.length<=274877906944):
  ∃v' w' news,(Builtin.append_ #[t,t] ty #[v,x]).run P w = .ok v' w'/\qe (qm P τ w H) l news []/\w'.ownsRow 0 e τ.size v' (n+l.length) (xs++news)/\w'.ownsRow 0 e τ.size v n xs/\w.grownBy w' v.ownBlock/\
   (v'.ownBlock=v.ownBlock\/∃g,v'.ownBlock=some g/\w.heap.size<=g/\g<w'.heap.size):=by
 obtain⟨news,h1,h2⟩:=qfx.raw hx
 obtain⟨v',w',k1,k2⟩:=qde hu he ty hown h1 (qfx.one h2) hlen
 exact⟨v',w',news,k1,h2,k2⟩
end
end Go.Vi
namespace Go.Vi
section
variable {P:Program} {C:Ctx} {cfg:jG} {R:Type} {r:R} {s:St} {a:Act} {w:World} {H:FH} {Φ:Nat->qB} {dst:Option Nat} {ty:TypeId} {pos:String} {after:Array Edge} {guard:Option (Nat×Bool)} {k:St->Option R}
theorem qcS{t tid:TypeId}{e:Ty}(hu:P.underlying t=some (.slice tid))(he:qN P tid e)(ad:Option Addr)(n cap:Nat)(lo hi:Option Int)(i j:Nat)(hi0:lo.getD 0=i)(hj0:hi.getD n=j)(hij:i<=j)(hjc:j<=cap)(w:World)(k1 k2:IntKind):
  (Instr.sliceAt t (.slice ad n cap) (lo.map (.int k1)) (hi.map (.int k2)) none).run P w = .ok (.slice (if cap=i then ad else ad.map (·.add (i*e.size))) (j-i) (cap-i)) w:=by
 cases lo with
 |none=>
  simp only[Option.getD_none]at hi0
  obtain rfl:i=0:=by omega
  cases hi with
  |none=>
   simp only[Option.getD_none]at hj0
   obtain rfl:n=j:=by omega
   simp[Instr.sliceAt,run_underlying hu,Instr.slice,Instr.sliceBounds,he.sizeOf]
  |some h=>
   simp only[Option.getD_some]at hj0
   subst hj0
   simp[Instr.sliceAt,run_underlying hu,Instr.slice,Instr.sliceBounds,Instr.sliceBound,asIntOf,he.sizeOf,hjc]
 |some l=>
  simp only[Option.getD_some]at hi0
  subst hi0
  cases hi with
  |none=>
   simp only[Option.getD_none]at hj0
   obtain rfl:n=j:=by omega
   simp[Instr.sliceAt,run_underlying hu,Instr.slice,Instr.sliceBounds,Instr.sliceBound,asIntOf,he.sizeOf,hij]
  |some h=>
   simp only[Option.getD_some]at hj0
   subst hj0
   simp[Instr.sliceAt,run_underlying hu,Instr.slice,Instr.sliceBounds,Instr.sliceBound,asIntOf,he.sizeOf,hjc,hij]
theorem qjg{c:Array Value}{o n p q:Nat}(hn:q<=n):((seg c o n).take q).drop p=seg c (o+p) (q-p):=by
 unfold seg
 rw[List.take_take,Nat.min_eq_left hn,List.drop_take,List.drop_drop]
theorem qm.slice{tid:TypeId}{e:Ty}{l:List e.den}{ad:Option Addr}{cap:Nat}(hr:qm P (.list false tid e) w H l [.slice ad l.length cap] []){i j:Nat}(hij:i<=j)(hj:j<=l.length):
  qm P (.list false tid e) w H ((l.take j).drop i) [.slice (if cap=i then ad else ad.map (·.add (i*e.size))) (j-i) (cap-i)] []:=by
 obtain⟨_,ad',cap',he,hc,hl⟩:=hr
 simp only[List.cons.injEq,Value.slice.injEq,and_true,true_and]at he
 obtain⟨rfl,rfl⟩:=he
 have hlen:((l.take j).drop i).length=j-i:=by simp[Nat.min_eq_left hj]
 refine⟨rfl,_,_,by rw[hlen],by rw[hlen];omega,?_⟩
 by_cases hz:j=i
 ·left
  exact List.length_eq_zero_iff.1 (by rw[hlen];omega)
 ·right
  rcases hl with rfl|⟨b,o,blk,rfl,hH,hch⟩
  ·simp at hj;omega
  ·have hci:¬cap=i:=by omega
   refine⟨b,o+i*e.size,blk,?_,hH,?_⟩
   ·rw[if_neg hci];simp[Addr.add_none]
   ·obtain⟨f1,h1,g1,e1⟩:=qe.take (n:=e.size) (λ_ _ _ hh=>qm.length e hh) hch j
    obtain⟨rfl,rfl⟩:=List.append_eq_nil_iff.1 e1.symm
    obtain⟨f2,h2,g2,e2⟩:=qe.drop (n:=e.size) (λ_ _ _ hh=>qm.length e hh) h1 i
    obtain⟨rfl,rfl⟩:=List.append_eq_nil_iff.1 e2.symm
    rw[qjg (Nat.mul_le_mul_right _ hj)]at h2
    rw[hlen,Nat.sub_mul]
    exact h2
theorem qke{blk:Array Value}{off:Nat}{v:Value}(h:(seg blk off 1).headD undef=v)(hv:v≠undef):blk[off]? = some v:=by
 unfold seg at h
 cases hq:blk.toList.drop off with
 |nil=>rw[hq]at h;exact absurd h.symm hv
 |cons u r=>
  have h2:(blk.toList.drop off)[0]? = some u:=by rw[hq];rfl
  rw[List.getElem?_drop,Nat.add_zero,Array.getElem?_toList]at h2
  rw[hq]at h
  rw[h2,<-h];rfl
theorem qaM{R:Type}{a b:Int}{k:Option R}{r:R}(h:leK a b k=some r):a<=b/\k=some r:=by
 unfold leK at h
 split at h
 ·exact⟨‹_›,h⟩
 ·cases h
theorem qjO(hs:qg P C s a w H Φ){x:Option Operand}{n:Option Int}(h:qfJ s x=some n):∃k:IntKind,x.map a.eval=n.map (Value.int k):=by
 unfold qfJ at h
 split at h
 ·cases h;exact⟨.i64,rfl⟩
 ·rename_i x
  split at h
  ·rename_i m hm
   cases h
   obtain⟨av,h1,h2⟩:=Option.bind_eq_some_iff.1 hm
   obtain⟨k,hk⟩:=qeG h2 (qk hs qv h1)
   exact⟨k,by simp[hk]⟩
  ·cases h
theorem qnZ(hcfg:qu P cfg)(hC:qz C cfg){T:TypeId}{x:Operand}{lo hi mx:Option Operand}(hs:qg P C s a w H Φ)(hd:qF cfg.nt dst=true)(h:qhG cfg s dst T x lo hi mx k=some r):
  ∃s',k s'=some r/\qah P C ⟨dst,.slice T x lo hi mx,ty,pos,after,guard⟩ a w s':=by
 unfold qhG at h
 split at h
 case h_2=>cases h
 rename_i av lo' hi' he hlo hhi
 have hr:=qk hs qv he
 obtain⟨k1,hk1⟩:=qjO hs hlo
 obtain⟨k2,hk2⟩:=qjO hs hhi
 split at h
 ·rename_i m e l
  unfold qj2 at h
  split at h
  case h_2=>cases h
  rename_i tid _ hsite
  cases hT:decide (lk cfg.ty T=some (.arr m e))with
  |false=>rw[hT]at h;cases h
  |true=>
  rw[hT,cond_true]at h
  obtain⟨hty,hfz⟩:=hcfg.ty T _ (of_decide_eq_true hT)
  obtain⟨u,hu,he⟩:=hty.arr
  obtain⟨hf,b,o,blk,hv,hb,hl,hch⟩:=hr
  refine⟨_,h,qp hs hC hd (v:=.slice (some ⟨b,o,none⟩) m m) ⟨hf,[.slice (some ⟨b,o,none⟩) m m],rfl,?_⟩ (λw' _=>?_)⟩
  ·refine⟨rfl,some ⟨b,o,none⟩,m,?_,Nat.le_of_eq hl,.inr ⟨b,o,blk,rfl,hb,?_⟩⟩
   ·rw[show List.length l=m from hl]
   ·rw[show List.length l=m from hl];exact hch
  ·simp[execOp,hv,Instr.sliceAt,run_underlying hu,Instr.sliceBounds,Instr.sureAddr,he.sizeOf,hk1,hk2]
   cases m<;>simp[Addr.add]
 rename_i hnot
 clear hnot
 unfold qmj at h
 split at h
 ·rename_i own tid e l
  cases hT: !own&&decide (lk cfg.ty T=some (.list false tid e))with
  |false=>rw[hT]at h;cases h
  |true=>
   rw[hT,cond_true]at h
   rw[Bool.and_eq_true,Bool.not_eq_true']at hT
   obtain⟨rfl,hT⟩:=hT
   obtain⟨hty,hfz⟩:=hcfg.ty T _ (of_decide_eq_true hT)
   obtain⟨hf,cs,hv,hrep⟩:=hr
   have hrep':=hrep
   obtain⟨_,ad,cap,rfl,hcap,_⟩:=hrep
   have hv':a.eval x = .slice ad (List.length l) cap:=by rw[hv];rfl
   have fin:∀(i j:Nat) (l':List e.den),lo'.getD 0=i->hi'.getD (List.length l)=j->i<=j->j<=List.length l->l'=(List.take j l).drop i->k (s.setDst dst (.val (.list false tid e) l'))=some r->
     ∃s',k s'=some r/\qah P C ⟨dst,.slice T x lo hi none,ty,pos,after,guard⟩ a w s':=by
    rintro i j l' hi0 hj0 hij hj rfl hk
    refine⟨_,hk,qp hs hC hd (v:=.slice (if cap=i then ad else ad.map (·.add (i*e.size))) (j-i) (cap-i)) ⟨hf,_,rfl,qm.slice hrep' hij hj⟩ (λw' _=>?_)⟩
    have:=qcS hty.list.1 hty.list.2 ad (List.length l) cap lo' hi' i j hi0 hj0 hij (Nat.le_trans hj hcap) w' k1 k2
    simp[execOp,hv',hk1,hk2,this]
   match lo',hi',h with
   |none,none,h=>exact fin 0 (List.length l) l rfl rfl (Nat.zero_le _) (Nat.le_refl _) (by simp) h
   |some i,none,h=>
    obtain⟨h0,h⟩:=qaM h
    obtain⟨h1,h⟩:=qaM h
    exact fin i.toNat (List.length l) _ (by simp;omega) rfl (by omega) (Nat.le_refl _) (by simp) h
   |none,some j,h=>
    obtain⟨h0,h⟩:=qaM h
    obtain⟨h1,h⟩:=qaM h
    exact fin 0 j.toNat _ rfl (by simp;omega) (Nat.zero_le _) (by omega) (by simp) h
   |some i,some j,h=>
    obtain⟨h0,h⟩:=qaM h
    obtain⟨h1,h⟩:=qaM h
    obtain⟨h2,h⟩:=qaM h
    exact fin i.toNat j.toNat _ (by simp;omega) (by simp;omega) (by omega) (by omega) rfl h
 ·rename_i id p
  split at h
  case h_2=>cases h
  rename_i o ho
  rw[jJ]at h
  obtain⟨y,hy,h⟩:=Option.bind_eq_some_iff.1 h
  obtain⟨σ,y⟩:=y
  simp only at h
  split at h
  case h_2=>cases h
  rename_i own tid e l
  cases hT:own&&e.isFz&&decide (lk cfg.ty T=some (.list false tid e))with
  |false=>rw[hT]at h;cases h
  |true=>
   rw[hT,cond_true]at h
   rw[Bool.and_eq_true,Bool.and_eq_true]at hT
   obtain⟨⟨rfl,hef⟩,hT⟩:=hT
   obtain⟨hty,_⟩:=hcfg.ty T _ (of_decide_eq_true hT)
   have hok:=(hs.os id o ho).1
   have hnf:=qbv _ hok.1 hy
   match lo',hi',h with
   |none,some j,h=>
    obtain⟨h0,h⟩:=qaM h
    obtain⟨h1,h⟩:=qaM h
    obtain⟨cs,fp,hv,hrep,hsub,_⟩:=qaX hr ho hok hy
    replace hrep:qm P (.list true tid e) w H l cs fp:=hrep
    replace hv:a.eval x=jZ (.list true tid e) cs:=hv
    obtain⟨hdr,xs,fp',rfl,rfl,hown,hch⟩:=hrep
    have hf0:=qe.fp_nil (λ_ _ _ hh=>qm.fz_fp e hef hh) hch
    subst hf0
    have hv':a.eval x=hdr:=by rw[hv];rfl
    have hcut:∃ad cap,hdr = .slice ad (List.length l) cap/\List.length l<=cap/\w.ownsRow 0 tid e.size (.slice ad j.toNat cap) j.toNat (xs.take (j.toNat*e.size))/\(Value.slice ad j.toNat cap).ownBlock=hdr.ownBlock:=by
     have hlx:(xs.take (j.toNat*e.size)).length=j.toNat*e.size:=by
      rw[List.length_take,hown.1]
      exact Nat.min_eq_left (Nat.mul_le_mul_right _ (by omega))
     rcases hown.2 with⟨rfl,hz⟩|⟨g,cap,cur,rfl,hb,hg,hnc,hcm,hcs,htake⟩
     ·have hj0:j.toNat=0:=by omega
      refine⟨none,0,by rw[hz],by omega,⟨hlx,.inl ⟨by rw[hj0],hj0⟩⟩,rfl⟩
     ·refine⟨_,cap,rfl,hnc,⟨hlx,.inr ⟨g,cap,cur,rfl,hb,hg,by omega,hcm,hcs,?_⟩⟩,rfl⟩
      rw[<-htake,List.take_take,Nat.min_eq_left (Nat.mul_le_mul_right _ (by omega))]
    obtain⟨ad,cap,rfl,hlc,hcut,hblk⟩:=hcut
    obtain⟨f1,hch',g1,e1⟩:=qe.take (n:=e.size) (λ_ _ _ hh=>qm.length e hh) hch j.toNat
    obtain⟨rfl,rfl⟩:=List.append_eq_nil_iff.1 e1.symm
    have hll:(List.take j.toNat l).length=j.toNat:=by rw[List.length_take];omega
    have hru:qh P C w H Φ s.obj (.upd id p tid e (List.take j.toNat l)) (.slice ad j.toNat cap):=by
     refine⟨o,ho,by simpa[Ty.noFx,Ty.noFn]using hnf,jD _ hy,(Value.slice ad j.toNat cap).ownBlock.toList,by cases(Value.slice ad j.toNat cap).ownBlock<;>simp,⟨_,_,[],rfl,by simp,by rw[hll];exact hcut,hch'⟩,?_⟩
     intro b hb
     rw[hblk]at hb
     refine⟨((hs.os id o ho).2 b (hsub b (by simp at hb ⊢;exact hb))).2.2,.inr ?_⟩
     obtain⟨o',y',q1,q2,q3⟩:=hr
     rw[ho]at q1
     cases q1
     unfold qb0
     cases hrp:o.row&&p.isEmpty with
     |true=>exact hsub b (by simp at hb ⊢;exact hb)
     |false=>
      rw[hrp]at q3
      rw[hy]at q2
      cases q2
      obtain⟨b2,off,blk,t,q4,q5,q6⟩:=q3
      have q7:jZ (.list true tid e) (seg blk off 1) = .slice ad (List.length l) cap:=by rw[<-hv'];exact q6.symm
      have hc9:=qke q7 (by simp[undef])
      have hsg:seg blk off (Ty.list true tid e).size=[.slice ad (List.length l) cap]:=by
       show seg blk off 1=_
       unfold seg
       rw[List.take_one,List.head?_drop,Array.getElem?_toList,hc9]
       rfl
      exact⟨⟨.list true tid e,l⟩,b2,off,blk,t,(Value.slice ad (List.length l) cap).ownBlock.toList,hy,q4,q5,by rw[hsg];exact⟨_,_,[],rfl,by simp,hown,hch⟩,by simpa using hb⟩
    refine⟨_,h,qp hs hC hd hru (λw' _=>?_)⟩
    have:=qcS hty.list.1 hty.list.2 ad (List.length l) cap none (some j) 0 j.toNat rfl (by simp;omega) (Nat.zero_le _) (by omega) w' k1 k2
    simp only[Nat.zero_mul,Nat.sub_zero,Option.map_none,Option.map_some]at this
    have hadd:(if cap=0 then ad else Option.map (λx=>x.add 0) ad)=ad:=by
     split
     ·rfl
     ·cases ad<;>rfl
    rw[hadd]at this
    simp[execOp,hv',hk1,hk2,this]
   |none,none,h=>cases h
   |some i,none,h=>
    replace h:leK 0 i (leK i (List.length l) (k (s.setDst dst (.cut id p e.size i))))=some r:=h
    obtain⟨h0,hq1⟩:=qaM h
    obtain⟨h1,hq2⟩:=qaM hq1
    obtain⟨cs,fp,hv,hrep,_,_⟩:=qaX hr ho hok hy
    replace hrep:qm P (.list true tid e) w H l cs fp:=hrep
    replace hv:a.eval x=jZ (.list true tid e) cs:=hv
    obtain⟨hdr,xs,fp',rfl,rfl,hown,_⟩:=hrep
    have hv':a.eval x=hdr:=by rw[hv];rfl
    have hhd:∃ad cap,hdr = .slice ad (List.length l) cap/\List.length l<=cap:=by
     rcases hown.2 with⟨rfl,hz⟩|⟨g,cap,cur,rfl,_,_,hnc,_⟩
     ·exact⟨none,0,by rw[hz],by omega⟩
     ·exact⟨_,cap,rfl,hnc⟩
    obtain⟨ad,cap,rfl,hlc⟩:=hhd
    have hru:qh P C w H Φ s.obj (.cut id p e.size i) (.slice (if cap=i.toNat then ad else ad.map (·.add (i.toNat*e.size))) (List.length l-i.toNat) (cap-i.toNat)):=
     ⟨_,hr,ad,List.length l,cap,hv',h0,by omega,rfl⟩
    refine⟨_,hq2,qp hs hC hd hru (λw' _=>?_)⟩
    have:=qcS hty.list.1 hty.list.2 ad (List.length l) cap (some i) none i.toNat (List.length l) (by simp;omega) rfl (by omega) (by omega) w' k1 k2
    simp only[Option.map_none,Option.map_some]at this
    simp[execOp,hv',hk1,hk2,this]
   |some _,some _,h=>cases h
 ·cases h
theorem op_slice(hcfg:qu P cfg)(hC:qz C cfg){T:TypeId}{x:Operand}{lo hi mx:Option Operand}(hs:qg P C s a w H Φ)(hd:qF cfg.nt dst=true)(h:qG cfg ⟨dst,.slice T x lo hi mx,ty,pos,after,guard⟩ s k=some r):
  ∃s',k s'=some r/\qah P C ⟨dst,.slice T x lo hi mx,ty,pos,after,guard⟩ a w s':=by
 simp only[qG]at h
 obtain⟨H',hs'⟩:=hs.frzSite (cfg:=cfg) dst x
 exact qnZ hcfg hC hs' hd h
end
end Go.Vi
namespace Go.Vi
section
variable {P:Program} {C:Ctx} {cfg:jG} {R:Type} {r:R} {s:St} {a:Act} {w:World} {H:FH} {Φ:Nat->qB} {dst:Option Nat} {ty:TypeId} {pos:String} {after:Array Edge} {guard:Option (Nat×Bool)} {k:St->Option R}
theorem qb4(w:World)(o:Go.Obj):jM qV w (w.alloc o):=⟨rfl,rfl,rfl,by simp,λk hk _=>heap_alloc_old w o hk⟩
theorem qad{o:Oper}{a:Act}{w w':World}{v:Value}{s':St}(hrun:(execOp a.eval o).run P w = .ok (.value v) w')(h:Sim P C s' (a.put o.dst v) w'):qaG P C o a w s':=by
 unfold qaG;rw[hrun];exact h
theorem qdd{v:Value}{T:TypeId}:(newVar T v).run P w = .ok ⟨w.heap.size,0,none⟩ (w.alloc (.cells v.cells T)):=by
 simp[newVar,newRow]
theorem qg.newVar(hs:qg P C s a w H Φ)(hcfg:qu P cfg)(hC:qz C cfg){d:Nat}(hd:d<cfg.nt){T:TypeId}{τ:Ty}{x:τ.den}{cs:List Value}{arr:Array Value}(hn:τ.noFx=true)(harr:arr.toList=cs)(hrep:qm P τ w H x cs []):
  ∃Φ',qg P C ((s.newObj d false τ x).set d (.ptr d [])) (a.put (some d) (.pointer (some ⟨w.heap.size,0,none⟩))) (w.alloc (.cells arr T)) H Φ':=by
 have hm:=qb4 w (.cells arr T)
 have hd2:d<4000000:=by have:=hcfg.small;omega
 have hh:(w.alloc (.cells arr T)).heap[w.heap.size]? = some (.cells arr T (0,0)):=heap_alloc_new w _
 have hnone:H w.heap.size=none:=by
  cases hq:H w.heap.size with
  |none=>rfl
  |some c=>exact absurd (hs.hok.lt hq) (by omega)
 have h1:=hs.newObj hm (hC.pin d (Nat.lt_trans hd2 (by decide))) (qbb hd2) (row:=false) (τ:=τ) (x:=x) (φ:=⟨w.heap.size,.nilFunc,[w.heap.size]⟩)
  ⟨hn,by simp,arr,T,[],hh,by rw[harr];exact qm.mono τ (FH.le_refl _) (by simp) hrep,rfl⟩ (by
   intro b hb
   simp only[List.mem_singleton]at hb
   subst hb
   refine⟨hnone,.inr hs.mod.size,by simp,λj o' _ hj hb=>?_⟩
   have:=((hs.os j o' hj).2 _ hb).2.2
   omega)
 refine⟨_,h1.set (by rw[hC.nt];exact hd) ⟨⟨false,τ,x⟩,⟨τ,x⟩,w.heap.size,0,?_,rfl,qH _ _,?_,rfl⟩⟩
 ·rw[St.newObj,St.obj_setObj,if_pos rfl]
 ·rw[qr]
  exact j6 _ _ _ _
theorem op_alloc(hcfg:qu P cfg)(hC:qz C cfg){T:TypeId}(hs:qg P C s a w H Φ)(hd:qF cfg.nt dst=true)(h:qG cfg ⟨dst,.alloc T,ty,pos,after,guard⟩ s k=some r):
  ∃s',k s'=some r/\qaG P C ⟨dst,.alloc T,ty,pos,after,guard⟩ a w s':=by
 simp only[qG]at h
 split at h
 case h_2=>cases h
 rename_i d τ hst
 have hty:qN P T τ:=by
  unfold siteTy at hst
  simp only at hst
  split at hst
  ·rename_i σ _
   cases hq:decide (some σ.fz=lk cfg.ty T)with
   |false=>rw[hq]at hst;cases hst
   |true=>
    rw[hq,cond_true]at hst
    cases hst
    exact qN.unfz (hcfg.ty T _ (of_decide_eq_true hq).symm).1
  ·exact(hcfg.ty T _ hst).1
 cases hn:τ.zeroX with
 |false=>rw[hn]at h;cases h
 |true=>
  rw[hn,cond_true]at h
  have hcells:(jZ τ τ.zeroCells).cells.toList=τ.zeroCells:=qbc (by rintro x y rfl;exact hty.not_pair) (Ty.zero_length τ) (Ty.zero_one τ)
  obtain⟨Φ',h1⟩:=hs.newVar hcfg hC (Eq.mp Nat.blt_eq hd) (T:=T) (Ty.zeroX_noFx τ hn) hcells (qm.zeroX τ hn)
  refine⟨_,h,qad (w':=w.alloc (.cells (jZ τ τ.zeroCells).cells T)) (v:=.pointer (some ⟨w.heap.size,0,none⟩)) ?_ ⟨H,Φ',h1⟩⟩
  simp[execOp,Instr.alloc,hty.zeroValue,qdd]
theorem qnf{av:AV}{v:Value}(hr:qh P C w H Φ s.obj av v){τ:Ty}(hfz:τ.isFz=true){f:τ.den->Option R}(hav:(∃σ x,av = .val σ x)\/∃σ x,av = .ref σ x)(h:qb8 s av τ f=some r):
  ∃x,f x=some r/\∃cs,v=jZ τ cs/\qm P τ w H x cs []:=by
 rcases hav with⟨σ,x,rfl⟩|⟨σ,x,rfl⟩
 ·simp only[qb8,qi]at h
  replace h:=Option.bind_eq_some_iff.1 h
  obtain⟨y,hy,h⟩:=h
  obtain⟨e,hy⟩:=qf hy
  subst e
  subst hy
  obtain⟨_,cs,hv,hrep⟩:=hr
  exact⟨_,h,cs,hv,hrep⟩
 ·simp only[qb8,qi]at h
  replace h:=Option.bind_eq_some_iff.1 h
  obtain⟨y,hy,h⟩:=h
  obtain⟨e,hy⟩:=qf hy
  subst e
  subst hy
  obtain⟨_,b,o,blk,hv,hH,hrep⟩:=hr
  exact⟨_,h,[v],rfl,rfl,b,o,blk,by rw[hv],hH,hrep⟩
theorem qg.newFrozen(hs:qg P C s a w H Φ)(hC:qz C cfg){d:Nat}(hd:d<cfg.nt){T:TypeId}{τ:Ty}{x:τ.den}{cs:List Value}{arr:Array Value}(hfz:τ.isFz=true)(harr:arr.toList=cs)(hrep:qm P τ w H x cs []):
  ∃H',qg P C (s.set d (.ref τ x)) (a.put (some d) (.pointer (some ⟨w.heap.size,0,none⟩))) (w.alloc (.cells arr T)) H' Φ:=by
 have hm:=qb4 w (.cells arr T)
 have hnone:H w.heap.size=none:=by
  cases hq:H w.heap.size with
  |none=>rfl
  |some c=>exact absurd (hs.hok.lt hq) (by omega)
 obtain⟨H',hH'⟩:∃H':FH,H'=λb=>if b=w.heap.size then some (FB.cells arr)else H b:=⟨_,rfl⟩
 have hold:∀b,b≠w.heap.size->H' b=H b:=λb hb=>by rw[hH'];simp only[if_neg hb]
 have hnew:H' w.heap.size=some (.cells arr):=by rw[hH'];exact if_pos rfl
 have hle:H.le H':=λb c hb=>by
  rw[hold b (by rintro rfl;rw[hnone]at hb;cases hb)]
  exact hb
 have hw:∀b,b<w.heap.size->(w.alloc (.cells arr T)).heap[b]? = w.heap[b]?:=λb hb=>heap_alloc_old w _ hb
 refine⟨H',qg.set (C:=C) ⟨hs.defers,hs.size,FH.le_trans hs.le hle,?_,?_,hs.mod.trans (hm.mono (λ_ hb=>hb.elim)),?_,?_,hs.disj,hs.pins⟩ (by rw[hC.nt];exact hd) ⟨hfz,w.heap.size,0,arr,rfl,hnew,?_⟩⟩
 ·intro b c hb
  by_cases e:b=w.heap.size
  ·subst e
   rw[hnew]at hb
   cases hb
   exact⟨T,(0,0),heap_alloc_new w _⟩
  ·rw[hold b e]at hb
   exact(hs.hok b c hb).block (hw b (hs.hok.lt hb))
 ·intro b c hb
  by_cases e:b=w.heap.size
  ·subst e;exact .inr (.inr hs.mod.size)
  ·rw[hold b e]at hb;exact hs.hnew b c hb
 ·intro t av ht
  exact qh.grow hle (λid o ho=>⟨(hs.os id o ho).1,λb hb=>((hs.os id o ho).2 b hb).2.2⟩) hw hm.size (λb hb=>by rw[hold b (by have:=hb.lt;omega)];exact hb.fz) (hs.ts t av ht)
 ·intro id o ho
  obtain⟨h1,h2⟩:=hs.os id o ho
  exact⟨h1.frame hle (λb hb=>hw b (h2 b hb).2.2),λb hb=>⟨by rw[hold b (by have:=(h2 b hb).2.2;omega)];exact(h2 b hb).1,(h2 b hb).2.1,Nat.lt_of_lt_of_le (h2 b hb).2.2 hm.size⟩⟩
 ·have:seg arr 0 τ.size=cs:=by
   have hl:=qm.length τ hrep
   rw[qdR,harr,<-hl,List.take_length]
  rw[this]
  exact qm.mono τ hle (by simp) hrep
theorem op_box(hcfg:qu P cfg)(hC:qz C cfg){T:TypeId}{x:Operand}(hs:qg P C s a w H Φ)(hd:qF cfg.nt dst=true)(h:qG cfg ⟨dst,.box T x,ty,pos,after,guard⟩ s k=some r):
  ∃s',k s'=some r/\qaG P C ⟨dst,.box T x,ty,pos,after,guard⟩ a w s':=by
 simp only[qG]at h
 split at h
 case h_2=>cases h
 rename_i d av τ he hT
 have hr:=qk hs (hcfg.fz T) he
 obtain⟨hty,hfz⟩:=hcfg.ty T τ hT
 have hdl:d<cfg.nt:=Eq.mp Nat.blt_eq hd
 cases hn:((!τ.noFn && !av.isVw)||(lk cfg.site d).isSome)with
 |true=>
  rw[hn,cond_true]at h
  split at h
  case h_3=>cases h
  case h_2=>
   rename_i σ y
   rw[qi]at h
   replace h:=Option.bind_eq_some_iff.1 h
   obtain⟨x0,hx,h⟩:=h
   obtain⟨e1,hx⟩:=qf hx
   subst e1
   subst hx
   obtain⟨_,b2,o2,blk,hv,hH,hrep0⟩:=hr
   have hrep:qm P (.ptr σ) w H (some y) [.pointer (some ⟨b2,o2,none⟩)] []:=⟨rfl,b2,o2,blk,rfl,hH,hrep0⟩
   obtain⟨H',h1⟩:=hs.newFrozen hC hdl (T:=T) (arr:=(Value.pointer (some ⟨b2,o2,none⟩)).cells) hfz rfl hrep
   refine⟨_,h,qad (w':=w.alloc (.cells (Value.pointer (some ⟨b2,o2,none⟩)).cells T)) (v:=.pointer (some ⟨w.heap.size,0,none⟩)) ?_ ⟨H',Φ,h1⟩⟩
   simp[execOp,Instr.box,qdd,hv]
  rename_i σ y
  rw[qi]at h
  replace h:=Option.bind_eq_some_iff.1 h
  obtain⟨x0,hx,h⟩:=h
  obtain⟨e1,hx⟩:=qf hx
  subst e1
  subst hx
  obtain⟨_,cs,hv,hrep⟩:=hr
  have hcells:(jZ σ cs).cells.toList=cs:=qbc (by rintro x y rfl;exact hty.not_pair) (qm.length σ hrep) (qm.one σ hrep)
  obtain⟨H',h1⟩:=hs.newFrozen hC hdl (T:=T) hfz hcells hrep
  refine⟨_,h,qad (w':=w.alloc (.cells (jZ σ cs).cells T)) (v:=.pointer (some ⟨w.heap.size,0,none⟩)) ?_ ⟨H',Φ,h1⟩⟩
  simp[execOp,Instr.box,qdd,hv]
 |false=>
 rw[hn,cond_false]at h
 replace hn:av.isVw=false->τ.noFn=true:=by
  intro hv
  cases hq:τ.noFn with
  |true=>rfl
  |false=>rw[hq,hv]at hn;cases hn
 split at h
 ·rename_i id
  clear hn
  split at h
  case h_2=>cases h
  rename_i ob ho
  cases hq:ob.row&&decide (ob.τ.fz=τ)with
  |false=>rw[hq]at h;cases h
  |true=>
   rw[hq,cond_true]at h
   rw[Bool.and_eq_true]at hq
   obtain⟨hrow,hτ⟩:=hq
   have hτ:=of_decide_eq_true hτ
   subst hτ
   obtain⟨h1,h2⟩:=hs.os id ob ho
   obtain⟨o',y',q1,q2,q3⟩:=hr
   rw[ho]at q1
   cases q1
   rw[hrow]at q3
   simp only[List.isEmpty_nil,Bool.and_self]at q3
   obtain⟨hn2,hnd,h3⟩:=h1
   rw[hrow]at h3
   obtain⟨_,cs,hcs,h3⟩:=h3
   have hcells:(jZ ob.τ cs).cells.toList=cs:=qbc (by rintro x y e;rw[e]at hty;exact hty.not_pair) (qm.length _ h3) (qm.one _ h3)
   rw[<-hcs]at hcells
   have hrm:=hs.remove id
   have hm:=qb4 w (.cells (Φ id).hdr.cells T)
   have hh:(w.alloc (.cells (Φ id).hdr.cells T)).heap[w.heap.size]? = some (.cells (Φ id).hdr.cells T (0,0)):=heap_alloc_new w _
   have hnone:H w.heap.size=none:=by
    cases hq:H w.heap.size with
    |none=>rfl
    |some c=>exact absurd (hs.hok.lt hq) (by omega)
   have hd2:d<4000000:=Nat.lt_of_lt_of_le hdl (Nat.le_trans hcfg.small (by decide))
   have hob:∀j o,((s.kill id).setObj id none).obj j=some o->s.obj j=some o/\j≠id:=by
    intro j o hj
    rw[St.obj_setObj]at hj
    split at hj
    ·cases hj
    ·rename_i hne;exact⟨hj,λe=>hne e.symm⟩
   have hn1:=hrm.newObj hm (hC.pin d (Nat.lt_trans hd2 (by decide))) (qbb hd2) (row:=false) (τ:=ob.τ) (x:=ob.x) (φ:=⟨w.heap.size,.nilFunc,w.heap.size::(Φ id).fp⟩)
    ⟨hn2,by
     rw[List.nodup_cons]
     exact⟨λhb=>by have:=(h2 _ hb).2.2;omega,hnd⟩,(Φ id).hdr.cells,T,(Φ id).fp,hh,by rw[hcells];exact qm.mono _ (FH.le_refl _) (λb hb=>heap_alloc_old w _ (h2 b hb).2.2) h3,rfl⟩ (by
     intro b hb
     rcases List.mem_cons.1 hb with rfl|hb
     ·refine⟨hnone,.inr hs.mod.size,by simp,λj o' _ hj hb=>?_⟩
      have:=((hs.os j o' (hob j o' hj).1).2 _ hb).2.2
      omega
     ·obtain⟨p1,p2,p3⟩:=h2 b hb
      exact⟨p1,p2,by simp;omega,λj o' _ hj=>hs.disj id j ob o' (λe=>(hob j o' hj).2 e.symm) ho (hob j o' hj).1 b hb⟩)
   have ho5:(((s.kill id).setObj id none).newObj d false ob.τ ob.x).obj d=some ⟨false,ob.τ,ob.x⟩:=by rw[St.newObj,St.obj_setObj,if_pos rfl]
   have hn2:=hn1.set (d:=d) (av:=.ptr d []) (v:=.pointer (some ⟨w.heap.size,0,none⟩)) (by rw[hC.nt];exact hdl) ⟨⟨false,ob.τ,ob.x⟩,⟨ob.τ,ob.x⟩,w.heap.size,0,ho5,rfl,qH _ _,by
    rw[qr]
    exact j6 _ _ _ _,rfl⟩
   refine⟨_,h,qad (w':=w.alloc (.cells (Φ id).hdr.cells T)) (v:=.pointer (some ⟨w.heap.size,0,none⟩)) ?_ ⟨H,qaQ Φ d ⟨w.heap.size,.nilFunc,w.heap.size::(Φ id).fp⟩,?_⟩⟩
   ·simp[execOp,Instr.box,qdd,q3]
   unfold St.ghMove
   split
   case h_2=>exact hn2
   rename_i n j hg
   cases hj:Nat.beq j id with
   |false=>exact hn2
   |true=>
    obtain rfl:=Nat.eq_of_beq_eq_true hj
    refine hn2.setAV ?_
    obtain⟨u,hu,o2,y2,e1,_,e3⟩:=hs.ts ghId _ hg
    rw[ho]at e1
    cases e1
    rw[hrow]at e3
    simp only[List.isEmpty_nil,Bool.and_self]at e3
    refine⟨u,hu,⟨false,ob.τ,ob.x⟩,⟨ob.τ,ob.x⟩,ho5,qH _ _,?_⟩
    simp only[Bool.false_and]
    refine⟨w.heap.size,0,(Φ j).hdr.cells,T,?_,hh,?_⟩
    ·rw[qr]
     exact j6 _ _ _ _
    ·rw[e3]
     have:seg (Φ j).hdr.cells 0 ob.τ.size=cs:=by
      rw[qdR,hcells,List.take_of_length_le (by rw[qm.length _ h3];exact Nat.le_refl _)]
     rw[this]
     exact hcs
 ·rename_i hnv
  have key:((∃σ x,av = .val σ x)\/∃σ x,av = .ref σ x)/\∃x0:τ.den,k ((s.newObj d false τ x0).set d (.ptr d []))=some r/\∃cs,a.eval x=jZ τ cs/\qm P τ w H x0 cs []:=by
   cases av with
   |val σ y=>
    obtain⟨x0,h,hx⟩:=qnf hr hfz (.inl ⟨_,_,rfl⟩) h
    exact⟨.inl ⟨_,_,rfl⟩,x0,h,hx⟩
   |ref σ y=>
    obtain⟨x0,h,hx⟩:=qnf hr hfz (.inr ⟨_,_,rfl⟩) h
    exact⟨.inr ⟨_,_,rfl⟩,x0,h,hx⟩
   |view id p=>
    exfalso
    simp only[qb8]at h
    split at h
    ·rw[jJ]at h
     obtain⟨y,_,h⟩:=Option.bind_eq_some_iff.1 h
     rw[qi]at h
     obtain⟨y,_,h⟩:=Option.bind_eq_some_iff.1 h
     cases h
    ·cases h
   |upd id p tid e l=>
    cases h
   |ptr id p=>
    exfalso
    simp only[qb8]at h
    split at h
    ·rename_i o _
     cases hr:o.row with
     |true=>rw[hr]at h;cases h
     |false=>
      rw[hr,cond_false]at h
      split at h
      ·rw[qi]at h
       obtain⟨y,_,h⟩:=Option.bind_eq_some_iff.1 h
       cases h
      ·cases h
    ·cases h
   |_=>cases h
  obtain⟨hkk,x0,h,cs,hv,hrep⟩:=key
  replace hn:=hn (by rcases hkk with⟨_,_,rfl⟩|⟨_,_,rfl⟩<;>rfl)
  have hcells:(jZ τ cs).cells.toList=cs:=qbc (by rintro x y rfl;exact hty.not_pair) (qm.length τ hrep) (qm.one τ hrep)
  obtain⟨Φ',h1⟩:=hs.newVar hcfg hC hdl (T:=T) (Ty.noFn_noFx τ hn) hcells hrep
  refine⟨_,h,qad (w':=w.alloc (.cells (jZ τ cs).cells T)) (v:=.pointer (some ⟨w.heap.size,0,none⟩)) ?_ ⟨H,Φ',h1⟩⟩
  simp[execOp,Instr.box,qdd,hv]
end
end Go.Vi
namespace Go.Vi
section
variable {P:Program} {C:Ctx} {cfg:jG} {R:Type} {r:R} {s:St} {a:Act} {w:World} {H:FH} {Φ:Nat->qB} {dst:Option Nat} {ty:TypeId} {pos:String} {after:Array Edge} {guard:Option (Nat×Bool)} {k:St->Option R}
theorem qgP(z:Array Value)(hz:0<z.size):∀c,(madeCells z (c*z.size)).toList=(List.replicate c z.toList).flatten
 |0=>by simp[madeCells]
 |c+1=>by
  have ih:=qgP z hz c
  simp only[madeCells,Array.toList_map,Array.toList_range]at ih ⊢
  rw[Nat.add_mul,Nat.one_mul,List.range_add,List.map_append,ih,List.replicate_succ',List.flatten_append]
  congr 1
  rw[List.map_map]
  simp only[List.flatten_cons,List.flatten_nil,List.append_nil]
  apply List.ext_getElem?
  intro i
  by_cases hi:i<z.size
  ·have hm:(c*z.size+i)%z.size=i:=by rw[Nat.mul_comm,Nat.mul_add_mod];exact Nat.mod_eq_of_lt hi
   simp[hm,hi]
  ·simp[Nat.not_lt.1 hi]
theorem qu.low(hcfg:qu P cfg){d:Nat}(hd:d<cfg.nt):d<4000000:=Nat.lt_of_lt_of_le hd (Nat.le_trans hcfg.small (by decide))
theorem qn6(hcfg:qu P cfg){d:Nat}(hd:d<cfg.nt){v:Value}(hv:IsNN v):qiy cfg d<10000000/\cls (qiy cfg d) v:=by
 have h1:d<3000000:=Nat.lt_of_lt_of_le hd (Nat.le_trans hcfg.small (by decide))
 unfold qiy
 cases jY (1000000+d) cfg.enum with
 |true=>exact⟨by rw[cond_true];omega,qi5 (nn:=true) h1 hv⟩
 |false=>exact⟨by rw[cond_false];omega,qbb (by rw[cond_false];omega)⟩
theorem qg.newRow(hs:qg P C s a w H Φ)(_hcfg:qu P cfg)(hC:qz C cfg){d id:Nat}(hd:d<cfg.nt)(hid:id<10000000){tid:TypeId}{e:Ty}{l:List e.den}{v:Value}{w':World}{xs:List Value}(hcl:cls id v)(hn:e.noFn=true)(hm:jM qV w w')
  (hown:w'.ownsRow 0 tid e.size v l.length xs) (hch:qe (qm P e w' H) l xs []) (hnew:∀b,v.ownBlock=some b->w.heap.size<=b/\b<w'.heap.size):
  ∃Φ',qg P C ((s.newObj id true (.list true tid e) l).set d (.view id [])) (a.put (some d) v) w' H Φ':=by
 have h1:=hs.newObj hm (hC.pin id hid) (φ:=⟨0,v,v.ownBlock.toList⟩) hcl (row:=true) (τ:=.list true tid e) (x:=l)
  ⟨by simpa[Ty.noFx,Ty.noFn]using hn,by cases v.ownBlock<;>simp,rfl,[v],rfl,v,xs,[],rfl,by simp,hown,hch⟩ (by
   intro b hb
   have hb':v.ownBlock=some b:=by simpa using hb
   obtain⟨h2,h3⟩:=hnew b hb'
   refine⟨?_,.inr (Nat.le_trans hs.mod.size h2),h3,λj o' _ hj hb=>?_⟩
   ·cases hq:H b with
    |none=>rfl
    |some c=>exact absurd (hs.hok.lt hq) (by omega)
   ·have:=((hs.os j o' hj).2 _ hb).2.2
    omega)
 refine⟨_,h1.set (by rw[hC.nt];exact hd) ⟨⟨true,.list true tid e,l⟩,⟨.list true tid e,l⟩,?_,qH _ _,?_⟩⟩
 ·rw[St.newObj,St.obj_setObj,if_pos rfl]
 ·simp only[List.isEmpty_nil,Bool.and_self,qr]
theorem qco{R:Type}{n:Int}{k:Option R}{r:R}(h:ql n k=some r):0<=n/\n<=274877906944/\k=some r:=by
 rw[jR]at h
 split at h
 ·exact⟨by omega,by omega,h⟩
 ·cases h
theorem qkq(hcfg:qu P cfg)(hC:qz C cfg){T:TypeId}{x y:Operand}(hs:qg P C s a w H Φ)(hd:qF cfg.nt dst=true)(h:qG cfg ⟨dst,.makeSlice T x y,ty,pos,after,guard⟩ s k=some r):
  ∃s',k s'=some r/\qaG P C ⟨dst,.makeSlice T x y,ty,pos,after,guard⟩ a w s':=by
 simp only[qG]at h
 split at h
 case h_2=>cases h
 rename_i d tid e l c hl hc hst
 obtain⟨av,hl1,hl2⟩:=Option.bind_eq_some_iff.1 hl
 obtain⟨bv,hc1,hc2⟩:=Option.bind_eq_some_iff.1 hc
 obtain⟨k1,hv1⟩:=qeG hl2 (qk hs qv hl1)
 obtain⟨k2,hv2⟩:=qeG hc2 (qk hs qv hc1)
 cases hq:e.noFn&&decide (lk cfg.ty T=some (.list false tid e.fz))with
 |false=>rw[hq]at h;cases h
 |true=>
  rw[hq,cond_true]at h
  rw[Bool.and_eq_true]at hq
  obtain⟨hn,hT⟩:=hq
  obtain⟨hty,_⟩:=hcfg.ty T _ (of_decide_eq_true hT)
  obtain⟨hu,he⟩:=hty.list
  have he:=qN.unfz he
  obtain⟨h0,h⟩:=qaM h
  obtain⟨h1,h⟩:=qaM h
  obtain⟨h2,h3,h⟩:=qco h
  obtain⟨i,hi,hsz,hpos,hby,hz⟩:=he.info
  have hzc:(jZ e e.zeroCells).cells.toList=e.zeroCells:=qbc (by rintro x y rfl;exact he.not_pair) (Ty.zero_length e) (Ty.zero_one e)
  have hzs:(jZ e e.zeroCells).cells.size=e.size:=by rw[<-Array.length_toList,hzc,Ty.zero_length]
  have hb:(i.bytes:Int)*c<=281474976710656:=by
   have h4:i.bytes*c.toNat<=512*274877906944:=Nat.mul_le_mul hby (by omega)
   have h5:((i.bytes*c.toNat:Nat):Int)=(i.bytes:Int)*c:=by rw[Int.natCast_mul,Int.toNat_of_nonneg (by omega)]
   omega
  have hrun:=run_make (P:=P) w T tid i _ hu hi hz k1 k2 l c h0 h1 hb (by omega)
  have hm:=qb4 w (.cells (madeCells (jZ e e.zeroCells).cells (c.toNat*i.size)) tid)
  have hml:(madeCells (jZ e e.zeroCells).cells (c.toNat*i.size)).toList=(List.replicate c.toNat e.zeroCells).flatten:=by
   have:=qgP (jZ e e.zeroCells).cells (by omega) c.toNat
   rw[hzs,hzc]at this
   rw[hsz];exact this
  have hlz:(List.replicate l.toNat e.zeroCells).flatten.length=l.toNat*e.size:=by simp[Ty.zero_length]
  have hsplit:(List.replicate c.toNat e.zeroCells).flatten=(List.replicate l.toNat e.zeroCells).flatten++(List.replicate (c.toNat-l.toNat) e.zeroCells).flatten:=by
   rw[<-List.flatten_append,List.replicate_append_replicate];congr 2;omega
  have hmk:=qn6 hcfg (d:=d) (Eq.mp Nat.blt_eq hd) (v:=.slice (some ⟨w.heap.size,0,none⟩) l.toNat c.toNat) ⟨_,_,_,rfl⟩
  obtain⟨Φ',h4⟩:=hs.newRow (w':=w.alloc (.cells (madeCells (jZ e e.zeroCells).cells (c.toNat*i.size)) tid)) (tid:=tid) (e:=e) (l:=List.replicate l.toNat e.zero) (v:=.slice (some ⟨w.heap.size,0,none⟩) l.toNat c.toNat) (xs:=(List.replicate l.toNat e.zeroCells).flatten) hcfg hC (Eq.mp Nat.blt_eq hd) hmk.1 hmk.2 hn hm
   ⟨by rw[List.length_replicate,hlz],.inr ⟨w.heap.size,c.toNat,_,by rw[List.length_replicate],Nat.zero_le _,heap_alloc_new w _,by rw[List.length_replicate];omega,by unfold maxLen;omega,by rw[size_madeCells,hsz],by rw[List.length_replicate,hml,hsplit,<-hlz,List.take_left]⟩⟩
   (qe.replicate (qm.zero e hn) l.toNat) (by intro b hb;simp only[Value.ownBlock,Option.some.injEq]at hb;subst hb;exact⟨Nat.le_refl _,by simp⟩)
  refine⟨_,h,qad (w':=w.alloc (.cells (madeCells (jZ e e.zeroCells).cells (c.toNat*i.size)) tid)) (v:=.slice (some ⟨w.heap.size,0,none⟩) l.toNat c.toNat) ?_ ⟨H,Φ',h4⟩⟩
  simp[execOp,hv1,hv2,hrun]
theorem qfs{own:Bool}{tid:TypeId}{σ e:Ty}{y:σ.den}{l:List e.den}(h:qA σ (.list own tid e) y=some l):σ = .list own tid e/\HEq y l:=by
 obtain⟨e1,h2⟩:=qf h
 subst e1
 exact⟨rfl,by rw[h2]⟩
theorem ql1(_hcfg:qu P cfg)(hC:qz C cfg)(hs:qg P C s a w H Φ)(hd:qF cfg.nt dst=true){id:Nat}{p:List qq}{o:Obj}(ho:s.obj id=some o){T tid:TypeId}{e:Ty}(hu:P.underlying T=some (.slice tid))(he:qN P tid e)(hn:e.noFn=true){l:List e.den}(hy:qP o.τ o.x p=some ⟨.list true tid e,l⟩)
  {v:Value} (hr:qh P C w H Φ s.obj (.view id p) v) {x2:Value} {m:Nat} {news:List Value} (hx:RawEl w e.size x2 m news) {l2:List e.den} (hm:l2.length=m) {fpn:List Nat} (hch2:qe (qm P e w H) l2 news fpn) (hfpn:fpn.Nodup) (hfree:∀b∈fpn,qaB C w H Φ s.obj b) (hlen:l.length+m<=274877906944):
  ∃v' w',(Builtin.append_ #[T,T] ty #[v,x2]).run P w = .ok v' w'/\qg P C ((s.killIf (AV.staleV id o.row p)).setDst dst (.upd id p tid e (l++l2))) (a.put dst v') w' H Φ:=by
 have hok:=(hs.os id o ho).1
 have hob:=(hs.os id o ho).2
 obtain⟨cs,fp,hv,hrep,hsub,hndp⟩:=qaX hr ho hok hy
 replace hrep:qm P (.list true tid e) w H l cs fp:=hrep
 replace hv:v=jZ (.list true tid e) cs:=hv
 obtain⟨hdr,xs,fp',rfl,rfl,hown,hch⟩:=hrep
 replace hv:v=hdr:=hv
 subst hv
 obtain⟨v',w',hrun,hown2,hown1,hg,hblk⟩:=qde hu he ty hown hx (qe.all (λ_ _ _ hh=>qm.one e hh) hch2) hlen
 have hgb:∀b,v.ownBlock=some b->b∈(Φ id).fp:=λb hb=>hsub b (by rw[hb];simp)
 have hin:∀b∈fp',b∈(Φ id).fp:=λb hb=>hsub b (by simp[hb])
 have hne:∀b∈fp',some b≠v.ownBlock:=by
  intro b hb hh
  rw[<-hh]at hndp
  simp only[Option.toList_some,List.singleton_append,List.nodup_cons]at hndp
  exact hndp.1 hb
 have hsameI:∀b∈fp',w'.heap[b]? = w.heap[b]?:=λb hb=>hg.block b (hob b (hin b hb)).2.2 (hne b hb)
 have hsameN:∀b∈fpn,w'.heap[b]? = w.heap[b]?:=λb hb=>hg.block b (hfree b hb).lt (λhh=>(hfree b hb).obj id o ho (hgb b hh.symm))
 have hchI:qe (qm P e w' H) l xs fp':=qe.mono_fp (Q:=λb=>w'.heap[b]? = w.heap[b]?) (λ_ _ _ hf hh=>qm.mono e (FH.le_refl _) hf hh) hsameI hch
 have hchN:qe (qm P e w' H) l2 news fpn:=qe.mono_fp (Q:=λb=>w'.heap[b]? = w.heap[b]?) (λ_ _ _ hf hh=>qm.mono e (FH.le_refl _) hf hh) hsameN hch2
 have hrep1:qm P (.list true tid e) w' H l [v] (v.ownBlock.toList++fp'):=⟨v,xs,fp',rfl,rfl,hown1,hchI⟩
 have hobj:qK P w' H ⟨o.row,o.τ,o.x⟩ (Φ id)/\(∀b∈v.ownBlock.toList++fp',qb0 P w' H o (Φ id) p b)/\((o.row&&p.isEmpty)=true\/∃b1 o1,jS w o (Φ id) p b1 o1/\Chg P w w' H b1 o1 ⟨.list true tid e,l⟩/\w'.heap[b1]? = w.heap[b1]?):=by
  cases hrp:o.row&&p.isEmpty with
  |true=>
   have hrp0:=hrp
   simp only[Bool.and_eq_true,List.isEmpty_iff]at hrp
   obtain⟨hrow,rfl⟩:=hrp
   rw[qH]at hy
   obtain⟨q1,q2,q3⟩:=hok
   obtain⟨row,τ,ox⟩:=o
   simp only at hrow
   subst hrow
   simp only[Option.some.injEq,Sigma.mk.injEq]at hy
   obtain⟨rfl,hxl⟩:=hy
   simp only[heq_eq_eq]at hxl
   subst hxl
   have hrl:=qK.row_list ⟨q1,q2,q3⟩
   obtain⟨o',y',p1,p2,p3⟩:=hr
   rw[ho]at p1
   cases p1
   have hh:v=(Φ id).hdr:=p3
   rw[<-hh]at hrl
   have hfp:=qm.fp_det _ hrl ⟨v,xs,fp',rfl,rfl,hown,hch⟩
   refine⟨qK.of_list q1 q2 ?_,λb hb=>?_,.inl rfl⟩
   ·rw[hfp,<-hh]
    exact hrep1
   ·unfold qb0
    rw[hrp0]
    show b∈(Φ id).fp
    rw[hfp]
    exact hb
  |false=>
   have hloc0:∃w0 b off,jS w0 o (Φ id) p b off:=by
    obtain⟨ob2,y',p1,p2,p3⟩:=hr
    rw[ho]at p1
    cases p1
    rw[hrp]at p3
    obtain⟨b,off,_,_,k,_⟩:=p3
    exact⟨w,b,off,k⟩
   obtain⟨b',o',blk',t',pre',c,post',f1,f,f2,e1,e2,e3,e4,e5,e6,hl',e7⟩:=hok.desc2 (σ:=.list true tid e) (y:=(l:(Ty.list true tid e).den)) hy hloc0 hrp
   have hcc:c=[v]/\f=v.ownBlock.toList++fp':=by
    obtain⟨ob2,y',p1,p2,p3⟩:=hr
    rw[ho]at p1
    cases p1
    rw[hrp]at p3
    rw[hy]at p2
    cases p2
    obtain⟨b2,off,blk,t,q4,q5,q6⟩:=p3
    obtain⟨rfl,rfl⟩:=jS.det q4 (hl' w (λ_ _=>rfl))
    rw[e1]at q5
    cases q5
    have hlc:=qm.length _ e6
    have hc1:c=[v]:=by
     match c,hlc with
     |[u],_=>
      have:v=u:=by
       rw[q6,<-e3]
       exact congrArg (jZ (.list true tid e)) (qU (n:=1) e2 rfl)
      rw[this]
    subst hc1
    exact⟨rfl,qm.fp_det _ e6 ⟨v,xs,fp',rfl,rfl,hown,hch⟩⟩
   obtain⟨rfl,rfl⟩:=hcc
   have hnd:=hok.2.1
   rw[e4]at hnd
   have hbk:∀k,(k∈f1\/k∈f2)->some k≠v.ownBlock/\k<w.heap.size:=by
    intro k hk
    refine⟨λhh=>?_,(hob k (by rw[e4];rcases hk with h|h<;>simp[h])).2.2⟩
    rw[<-hh]at hnd
    simp only[Option.toList_some,List.nodup_append,List.mem_append,List.mem_singleton]at hnd
    rcases hk with hk|hk
    ·exact hnd.1.2.2 k hk k (.inl rfl) rfl
    ·exact hnd.2.2 k (.inr (.inl rfl)) k hk rfl
   have hsame:∀k,(k∈f1\/k∈f2)->w'.heap[k]? = w.heap[k]?:=λk hk=>hg.block k (hbk k hk).2 (hbk k hk).1
   have:=e7 w' [v] (v.ownBlock.toList++fp') (.list true tid e) l o.x hrep1 (qcl _ hy) (by rw[hsame b' (.inl e5),e1,<-e2]) (λk hk _=>hsame k (List.mem_append.1 hk)) hnd
   rw[<-e4]at this
   have hchg:Chg P w w' H b' o' ⟨.list true tid e,l⟩:=by
    refine⟨[v],v.ownBlock.toList++fp',e6,λi hi=>?_,λk hk _ hkf=>hg.block k hk (λe=>hkf (by rw[<-e];simp)),λi _=>World.cell?_of_block (a:=⟨b',i,none⟩) (hsame b' (.inl e5))⟩
    have hi:i<1:=hi
    obtain rfl:i=0:=by omega
    rw[qy e1,<-Array.getElem?_toList,e2,<-e3]
    simp
   refine⟨this,?_,.inr ⟨b',o',hl' w (λ_ _=>rfl),hchg,hsame b' (.inl e5)⟩⟩
   intro b hb
   unfold qb0
   rw[hrp]
   refine⟨⟨.list true tid e,l⟩,b',o',blk',t',v.ownBlock.toList++fp',hy,hl' w' (λk hk=>hsame k (.inl hk)),(hsame b' (.inl e5)).trans e1,?_,hb⟩
   have hsg:seg blk' o' (Ty.list true tid e).size=[v]:=by rw[<-e3];exact qU e2 rfl
   simp only[hsg]
   exact hrep1
 obtain⟨hobj,hhd,hroot⟩:=hobj
 have hother:∀j o',j≠id->s.obj j=some o'->∀b∈(Φ j).fp,w'.heap[b]? = w.heap[b]?/\H b=none:=by
  intro j o' hj hoj b hb
  refine⟨hg.block b ((hs.os j o' hoj).2 b hb).2.2 (λhh=>?_),((hs.os j o' hoj).2 b hb).1⟩
  exact hs.disj id j o o' (λe=>hj e.symm) ho hoj b (hgb b hh.symm) hb
 have hmw:jM (λk=>some k=v.ownBlock) w w':=⟨hg.os,hg.tape,hg.output,hg.size,λk hk hM=>hg.block k hk hM⟩
 have hmod:jM C.M0 C.w0 w':=hs.mod.trans_new hmw (λk hk=>(hob k (hgb k hk.symm)).2.1)
 have hhok:HOk H w':=hs.hok.mod hmw (λb hb=>(hob b (hgb b hb.symm)).1)
 have hlive:∀q,(o.row&&q.isEmpty)=false->qa9 p q=true->∀y,qP o.τ o.x q=some y->∀b off,jS w o (Φ id) q b off->jS w' ⟨o.row,o.τ,o.x⟩ (Φ id) q b off/\qa3 w w' b off (off+y.1.size):=by
  intro q hq hwq y2 hy2 b2 off2 hl2
  rcases hroot with hroot|⟨b1,o1,k1,k2,k3⟩
  ·simp only[Bool.and_eq_true,List.isEmpty_iff]at hroot
   obtain⟨hr1,rfl⟩:=hroot
   cases q with
   |nil=>rw[hr1]at hq;cases hq
   |cons a q=>simp[qa9]at hwq
  ·obtain⟨q1,q2⟩:=hok.stay ⟨rfl,rfl⟩ hwq hy hy2 k1 hl2 k2 o.x
   exact⟨q1,q2 (.inr k3)⟩
 have hch:=hs.changeF (F:=AV.staleV id o.row p) ho o.x (Φ id) rfl rfl (FH.le_refl H) hhok hs.hnew hmod hg.size hother hobj (λb hb=>⟨(hob b hb).1,(hob b hb).2.1,Nat.lt_of_lt_of_le (hob b hb).2.2 hg.size,λj o' hj hoj hb'=>hs.disj id j o o' (λe=>hj e.symm) ho hoj b hb hb'⟩)
  (λq hf=>by
   simp only[AV.staleV,Nat.beq_refl,Bool.true_and]at hf
   cases hq:q.any qq.isI with
   |false=>exact .inl rfl
   |true=>
    rw[hq,Bool.true_and,Bool.not_eq_false']at hf
    have hqe:(o.row&&q.isEmpty)=false:=by
     cases q with
     |nil=>simp at hq
     |cons _ _=>simp
    exact .inr λy2 hy2=>⟨λb off hl2=>(hlive q hqe hf y2 hy2 b off hl2).1,y2.2,hy2⟩)
  (λ_ _ _ _ _=>rfl)
  (λq hf=>by
   simp only[AV.staleV,Nat.beq_refl,Bool.true_and]at hf
   cases hrq:o.row&&q.isEmpty with
   |true=>exact .inl rfl
   |false=>
    right
    rw[hrq,Bool.not_false,Bool.true_and,Bool.not_eq_false']at hf
    intro y2 b2 off2 blk2 t2 _ hy2 hl2 he2
    obtain⟨k1,k2⟩:=hlive q hrq hf y2 hy2 b2 off2 hl2
    obtain⟨blk3,t3,he3⟩:∃blk3 t3,w'.heap[b2]? = some (.cells blk3 t3 (0,0)):=by
     by_cases hbo:some b2=v.ownBlock
     ·rcases hown1.2 with⟨e0,_⟩|⟨g,cap,cur,e0,_,hg',_⟩
      ·rw[e0]at hbo;simp[Value.ownBlock]at hbo
      ·rw[e0]at hbo
       simp only[Value.ownBlock,Option.some.injEq]at hbo
       subst hbo
       exact⟨_,_,hg'⟩
     ·exact⟨_,_,(hg.block b2 (Array.getElem?_eq_some_iff.1 he2).1 hbo).trans he2⟩
    exact⟨y2,b2,off2,_,_,rfl,hy2,k1,he3,qh7 k2 he2 he3⟩)
 have hΦ:qaQ Φ id (Φ id)=Φ:=by
  funext j
  unfold qaQ
  split
  ·rename_i e;rw[e]
  ·rfl
 rw[hΦ]at hch
 have hcg:=hch.congr (s':=s.killIf (AV.staleV id o.row p)) rfl (by
  funext j
  rw[St.obj_setObj,St.obj_killIf]
  split
  ·rename_i e;rw[<-e];exact ho
  ·rfl)
 have hty2:=jD _ hy
 have hnew:∀g,v'.ownBlock=some g->some g≠v.ownBlock->w.heap.size<=g/\g<w'.heap.size:=by
  intro g hg1 hg2
  rcases hblk with hb2|⟨g2,hb2,h5,h6⟩
  ·rw[hb2]at hg1;exact absurd hg1.symm hg2
  ·rw[hb2]at hg1;cases hg1;exact⟨h5,h6⟩
 refine⟨v',w',hrun,hcg.setDst (by rw[hC.nt];exact hd) ⟨o,ho,hn,hty2,v'.ownBlock.toList++(fp'++fpn),?_,⟨v',xs++news,fp'++fpn,rfl,rfl,by rw[List.length_append,hm];exact hown2,qe.append hchI hchN⟩,?_⟩⟩
 ·have hd1:∀b∈fp',b∉fpn:=λb hb hb'=>(hfree b hb').obj id o ho (hin b hb)
  have hd2:∀g,v'.ownBlock=some g->g∉fp'/\g∉fpn:=by
   intro g hg1
   by_cases hg2:some g=v.ownBlock
   ·exact⟨λhh=>hne g hh hg2,λhh=>(hfree g hh).obj id o ho (hgb g hg2.symm)⟩
   ·obtain⟨h5,_⟩:=hnew g hg1 hg2
    exact⟨λhh=>by have:=(hob g (hin g hh)).2.2;omega,λhh=>by have:=(hfree g hh).lt;omega⟩
  have hnd1:fp'.Nodup:=(List.nodup_append.1 hndp).2.1
  have hnd2:(fp'++fpn).Nodup:=List.nodup_append.2 ⟨hnd1,hfpn,λb hb _ hb' e=>hd1 b hb (e▸hb')⟩
  cases hvb:v'.ownBlock with
  |none=>simpa using hnd2
  |some g=>
   simp only[Option.toList_some,List.singleton_append,List.nodup_cons,List.mem_append]
   exact⟨λhh=>hh.elim (hd2 g hvb).1 (hd2 g hvb).2,hnd2⟩
 ·intro b hb
  simp only[List.mem_append,Option.mem_toList]at hb
  rcases hb with hb|hb|hb
  ·by_cases hg2:some b=v.ownBlock
   ·exact⟨Nat.lt_of_lt_of_le (hob b (hgb b hg2.symm)).2.2 hg.size,.inr (hhd b (by rw[<-hg2];simp))⟩
   ·obtain⟨h5,h6⟩:=hnew b hb hg2
    refine⟨h6,.inl ⟨?_,λj o' hj hbj=>?_,.inr (Nat.le_trans hs.mod.size h5),h6⟩⟩
    ·cases hq:H b with
     |none=>rfl
     |some c=>exact absurd (hs.hok.lt hq) (by omega)
    ·have:=((hs.os j o' hj).2 _ hbj).2.2
     omega
  ·exact⟨Nat.lt_of_lt_of_le (hob b (hin b hb)).2.2 hg.size,.inr (hhd b (by simp[hb]))⟩
  ·have hf:=hfree b hb
   exact⟨Nat.lt_of_lt_of_le hf.lt hg.size,.inl ⟨hf.fz,hf.obj,hf.may,Nat.lt_of_lt_of_le hf.lt hg.size⟩⟩
theorem qls(hcfg:qu P cfg)(hC:qz C cfg){x y:Operand}{T:TypeId}{av bv:AV}{tid:Nat}{t:Ty}(hs:qg P C s a w H Φ)(hd:qF cfg.nt dst=true)(hr:qh P C w H Φ s.obj av (a.eval x))(hr2:qh P C w H Φ s.obj bv (a.eval y))(h:qg6 s dst (lk cfg.ty T) tid t av bv k=some r):
  ∃s',k s'=some r/\qaG P C ⟨dst,.call ⟨.builtin .append,#[x,y],#[T,T]⟩,ty,pos,after,guard⟩ a w s':=by
 unfold qg6 at h
 cases h
theorem qmG(hcfg:qu P cfg)(hC:qz C cfg){c:Call}(hc:c.callee = .builtin .append)(hX:qhS cfg c=none)(hs:qg P C s a w H Φ)(hd:qF cfg.nt dst=true)(h:qG cfg ⟨dst,.call c,ty,pos,after,guard⟩ s k=some r):
  ∃s',(qfC cfg dst k s'=some r\/k s'=some r)/\qaG P C ⟨dst,.call c,ty,pos,after,guard⟩ a w s':=by
 simp only[qG,hc,hX]at h
 split at h
 case h_2=>cases h
 rename_i x y T T' hxy hTT
 split at h
 case h_2=>cases h
 rename_i av bv he1 he2
 cases hq:Nat.beq T T' with
 |false=>rw[hq]at h;cases h
 |true=>
 rw[hq,cond_true]at h
 obtain rfl:=Nat.eq_of_beq_eq_true hq
 have hr:=qk hs (hcfg.fz T) he1
 have hr2:=qk hs (hcfg.fz T) he2
 have e2:c=⟨.builtin .append,#[x,y],#[T,T]⟩:=by
  obtain⟨c1,c2,c3⟩:=c
  simp only at hc hxy hTT
  rw[hc,<-Array.toArray_toList (xs:=c2),hxy,<-Array.toArray_toList (xs:=c3),hTT]
 subst e2
 split at h
 ·obtain⟨s',h1,h2⟩:=qls hcfg hC hs hd hr hr2 h
  exact⟨s',.inr h1,h2⟩
 unfold qnE at h
 split at h
 case h_2=>cases h
 rename_i own tid e hT
 obtain⟨hty,hfz⟩:=hcfg.ty T _ hT
 obtain⟨hu,he⟩:=hty.list
 have hef:e.isFz=true:=by simp only[Ty.isFz,Bool.and_eq_true]at hfz;exact hfz.2
 cases hn:e.noFn with
 |false=>rw[hn]at h;cases h
 |true=>
 rw[hn,cond_true]at h
 split at h
 ·rename_i o2 tid2 e2 l0
  split at h
  case h_2=>cases h
  rename_i cv
  obtain⟨hv,_⟩:=qeO (a:=a) ⟨cv,rfl⟩ he1
  obtain⟨l2,h,hel⟩:=qfa hs hr2 hef h
  obtain⟨h2,h3,h⟩:=qco h
  split at h
  case h_2=>cases h
  rename_i d
  obtain⟨v',w',news,hrun,hch,hown,_,hg,hblk⟩:=qib hu he ty (World.ownsRow_nil w 0 tid e.size) hel (by omega)
  have hm:jM qV w w':=⟨hg.os,hg.tape,hg.output,hg.size,λk hk _=>hg.block k hk (by simp[Value.ownBlock])⟩
  simp only[Nat.zero_add,List.nil_append]at hown
  obtain⟨Φ',h4⟩:=hs.newRow (l:=l2) hcfg hC (Eq.mp Nat.blt_eq hd) (Nat.lt_trans (hcfg.low (Eq.mp Nat.blt_eq hd)) (by decide)) (qbb (hcfg.low (Eq.mp Nat.blt_eq hd))) hn hm hown (qe.mono (λ_ _ _ hh=>by
   have hf0:=qm.fz_fp e hef hh
   subst hf0
   exact qm.mono e (FH.le_refl _) (by simp) hh) hch) (by
   intro b hb
   rcases hblk with hb'|⟨g,hb',h5,h6⟩
   ·rw[hb']at hb;simp[Value.ownBlock]at hb
   ·rw[hb']at hb;cases hb;exact⟨h5,h6⟩)
  refine⟨_,.inl h,qad (w':=w') (v:=v') ?_ ⟨H,Φ',h4⟩⟩
  simp[execOp,resolve,invoke,builtin,hv,hrun]
 ·rename_i id p
  split at h
  case h_2=>cases h
  rename_i o ho
  rw[jJ]at h
  replace h:=Option.bind_eq_some_iff.1 h
  obtain⟨yy,hy,h⟩:=h
  obtain⟨σ,yy⟩:=yy
  simp only[qi]at h
  replace h:=Option.bind_eq_some_iff.1 h
  obtain⟨l,hl,h⟩:=h
  obtain⟨hσ,hyl⟩:=qfs hl
  subst hσ
  obtain rfl:=eq_of_heq hyl
  obtain⟨l2,h,hel⟩:=qfa hs hr2 hef h
  obtain⟨h2,h3,h⟩:=qco h
  obtain⟨news,hraw,hch2⟩:=qfx.raw hel
  obtain⟨v',w',hrun,hsim⟩:=ql1 (ty:=ty) hcfg hC hs hd ho hu he hn hy hr hraw rfl hch2 List.nodup_nil (by simp) (by omega)
  refine⟨_,.inl h,qad (w':=w') (v:=v') ?_ ⟨H,Φ,hsim⟩⟩
  simp[execOp,resolve,invoke,builtin,hrun]
 ·cases h
theorem cutOf_ok{os:Nat->Option Obj}{av:AV}{v:Value}{id:Nat}{lo:Int}(h:cutOf av=some (id,lo))(hr:qh P C w H Φ os av v):∃v0,ViewAt w Φ os id [] v0/\((lo=0/\v=v0)\/CutV v0 1 lo v):=by
 unfold cutOf at h
 split at h
 ·cases h
  exact⟨v,hr,.inl ⟨rfl,rfl⟩⟩
 ·rename_i z lo'
  cases hz:Nat.beq z 1 with
  |false=>rw[hz]at h;cases h
  |true=>
  rw[hz,cond_true]at h
  cases h
  obtain rfl:=Nat.eq_of_beq_eq_true hz
  obtain⟨v0,h1,h2⟩:=hr
  exact⟨v0,h1,.inr h2⟩
 ·cases h
theorem qdV{α:Type}(l l2:List α){lo:Nat}(h:lo<=l.length):(qcz l l2 lo).length=l.length:=by
 unfold qcz
 simp only[List.length_append,List.length_take,List.length_drop]
 omega
theorem qmx{α:Type}(l l2:List α){lo:Nat}(h:lo<=l.length)(h0:min l2.length (l.length-lo)=0):qcz l l2 lo=l:=by
 unfold qcz
 have:l2.take (l.length-lo)=[]:=by
  apply List.eq_nil_of_length_eq_zero
  rw[List.length_take]
  omega
 rw[this,h0,List.append_nil,Nat.add_zero,List.take_append_drop]
theorem qe.over{α:Type}{R:α->List Value->List Nat->Prop}(hn:∀x c f,R x c f->c.length=1){l l2:List α}{xs ys:List Value}(h1:qe R l xs [])(h2:qe R l2 ys [])(lo:Nat):qe R (qcz l l2 lo) (qcz xs ys lo) []:=by
 have e1:=qe.length hn h1
 have e2:=qe.length hn h2
 rw[Nat.mul_one]at e1 e2
 obtain⟨f1,a1,g1,b1⟩:=qe.take hn h1 lo
 obtain⟨f2,a2,g2,b2⟩:=qe.take hn h2 (l.length-lo)
 obtain⟨f3,a3,g3,b3⟩:=qe.drop hn h1 (lo+min l2.length (l.length-lo))
 obtain⟨rfl,_⟩:=List.append_eq_nil_iff.1 b1.symm
 obtain⟨rfl,_⟩:=List.append_eq_nil_iff.1 b2.symm
 obtain⟨_,rfl⟩:=List.append_eq_nil_iff.1 b3.symm
 rw[Nat.mul_one]at a1 a2 a3
 have:=qe.append (qe.append a1 a2) a3
 unfold qcz
 rw[e1,e2]
 exact this
theorem qnJ{α:Type}(c ys:List α)(n lo:Nat)(hn:n<=c.length)(hlo:lo<=n):(c.take lo++ys.take (n-lo)++c.drop (lo+min ys.length (n-lo))).take n=qcz (c.take n) ys lo:=by
 unfold qcz
 have h1:(c.take lo++ys.take (n-lo)).length=lo+min ys.length (n-lo):=by
  rw[List.length_append,List.length_take,List.length_take]
  omega
 rw[List.length_take,Nat.min_eq_left hn,List.take_take,Nat.min_eq_left hlo,List.drop_take,List.take_append,h1,List.take_of_length_le (by rw[h1];omega)]
theorem op_copy(hcfg:qu P cfg)(hC:qz C cfg){c:Call}(hc:c.callee = .builtin .copy)(hs:qg P C s a w H Φ)(hd:qF cfg.nt dst=true)(h:qG cfg ⟨dst,.call c,ty,pos,after,guard⟩ s k=some r):
  ∃s',k s'=some r/\qaG P C ⟨dst,.call c,ty,pos,after,guard⟩ a w s':=by
 simp only[qG,hc]at h
 split at h
 case h_2=>cases h
 rename_i x y T T' hxy hTT
 split at h
 case h_2=>cases h
 rename_i av bv he1 he2
 have hr:=qk hs (hcfg.fz T) he1
 have hr2:=qk hs (hcfg.fz T') he2
 have e2:c=⟨.builtin .copy,#[x,y],#[T,T']⟩:=by
  obtain⟨c1,c2,c3⟩:=c
  simp only at hc hxy hTT
  rw[hc,<-Array.toArray_toList (xs:=c2),hxy,<-Array.toArray_toList (xs:=c3),hTT]
 subst e2
 unfold copyK at h
 split at h
 case h_2=>cases h
 rename_i own tid e hT
 obtain⟨hty,hfz⟩:=hcfg.ty T _ hT
 obtain⟨hu,he⟩:=hty.list
 have hef:e.isFz=true:=by simp only[Ty.isFz,Bool.and_eq_true]at hfz;exact hfz.2
 cases hfl:e.isFlat&&Nat.beq e.size 1 with
 |false=>rw[hfl]at h;cases h
 |true=>
 rw[hfl,cond_true]at h
 have hsz:e.size=1:=Nat.eq_of_beq_eq_true (Bool.and_eq_true_iff.1 hfl).2
 split at h
 case h_2=>cases h
 rename_i id lo hcut
 split at h
 case h_2=>cases h
 rename_i o ho
 cases hrow:o.row with
 |false=>rw[hrow]at h;cases h
 |true=>
 rw[hrow,cond_true]at h
 simp only[qi]at h
 replace h:=Option.bind_eq_some_iff.1 h
 obtain⟨l,hl,h⟩:=h
 obtain⟨l2,h,hel⟩:=qfa hs hr2 hef h
 obtain⟨v0,hv0,hvv⟩:=cutOf_ok hcut hr
 have hok:=(hs.os id o ho).1
 have hob:=(hs.os id o ho).2
 obtain⟨row,τ,ox⟩:=o
 simp only at hrow
 subst hrow
 obtain⟨hτ,hyl⟩:=qf hl
 simp only at hτ
 subst hτ
 simp only at hyl
 subst hyl
 have hok':=hok
 obtain⟨q1,q2,_⟩:=hok'
 have hrep:=qK.row_list hok
 obtain⟨hdr,xs,fp',k1,k2,hown,hch⟩:=hrep
 have hf0:=qe.fp_nil (λ_ _ _ hh=>qm.fz_fp e hef hh) hch
 subst hf0
 have hhd:(Φ id).hdr=hdr:=by simpa using k1
 have hv0':v0=hdr:=by
  obtain⟨o',y',p1,_,p3⟩:=hv0
  rw[ho]at p1
  cases p1
  exact p3.trans hhd
 subst hv0'
 have hinfo:∃i,P.info? tid=some i/\i.size=1:=by
  obtain⟨i,hi,hs1,_⟩:=he.info
  exact⟨i,hi,hs1.trans hsz⟩
 obtain⟨inf,hi,hi1⟩:=hinfo
 have his:(P.info? tid).map (·.size)=some 1:=by rw[hi];simp[hi1]
 have hone:∀x c f,qm P e w H x c f->c.length=1:=λx c f hh=>(qm.length e hh).trans hsz
 have hplace:∃ad cap,a.eval x = .slice ad (l.length-lo.toNat) cap/\lo.toNat<=l.length/\(∀g cur,(∃n c,v0 = .slice (some ⟨g,0,none⟩) n c)->lo.toNat<l.length->w.heap[g]? = some (.cells cur tid (0,0))->ad=some ⟨g,lo.toNat,none⟩):=by
  have hlen:∃ad cap,v0 = .slice ad l.length cap/\l.length<=cap:=by
   rcases hown.2 with⟨rfl,hz⟩|⟨g,cap,cur,rfl,_,_,hnc,_⟩
   ·exact⟨none,0,by rw[hz],by omega⟩
   ·exact⟨_,cap,rfl,hnc⟩
  obtain⟨ad,cap,rfl,hnc⟩:=hlen
  rcases hvv with⟨rfl,hv⟩|⟨ad',n,cap',e1,h0,hn,hv⟩
  ·refine⟨ad,cap,by rw[hv];rfl,Nat.zero_le _,?_⟩
   rintro g cur ⟨n,c,e1⟩ _ _
   cases e1
   rfl
  ·cases e1
   refine⟨_,_,hv,hn,?_⟩
   rintro g cur ⟨n,c,e1⟩ hlt _
   cases e1
   rw[if_neg (by omega)]
   simp[Addr.add_none]
 obtain⟨ad,cap,hva,hlo,had⟩:=hplace
 have hmin:Nat.min l2.length (l.length-lo.toNat)=min l2.length (l.length-lo.toNat):=rfl
 have hsrc:∃ad2 cap2,a.eval y = .slice ad2 l2.length cap2:=by
  rcases hel with(⟨rfl,hv⟩|⟨b,o2,c2,ys,hv,_⟩)|⟨rfl,ad2,c2,hv⟩
  ·exact⟨none,0,hv⟩
  ·exact⟨_,_,hv⟩
  ·exact⟨ad2,c2,hv⟩
 obtain⟨ad2,cap2,hvb⟩:=hsrc
 by_cases hm0:min l2.length (l.length-lo.toNat)=0
 ·have hrun:=run_copy_none (P:=P) w T T' ty tid ad ad2 (l.length-lo.toNat) cap l2.length cap2 hu his (hmin.trans hm0)
  rw[qmx l l2 hlo hm0,hm0]at h
  have hch2:=hs.change ho l (Φ id) rfl rfl (FH.le_refl H) hs.hok hs.hnew hs.mod (Nat.le_refl _) (λj o' hj hoj b hb=>⟨rfl,((hs.os j o' hoj).2 b hb).1⟩) hok (λb hb=>⟨(hob b hb).1,(hob b hb).2.1,(hob b hb).2.2,λj o' hj hoj hb'=>hs.disj id j _ o' (λe=>hj e.symm) ho hoj b hb hb'⟩)
  refine⟨_,h,qad (w':=w) (v:=goInt 0) ?_ ⟨H,_,hch2.setDst (by rw[hC.nt];exact hd) (qh.mk_int _ _ _ _ _ _)⟩⟩
  simp[execOp,resolve,invoke,builtin,hva,hvb,hrun]
 ·rcases hown.2 with⟨_,hz⟩|⟨g,cap0,cur,rfl,_,hg,hnc,hcm,hcs,htake⟩
  ·exact absurd (by omega) hm0
  rcases hel with(⟨rfl,_⟩|⟨b2,o2,c2,ys,hv2,hys,hcells⟩)|⟨rfl,_⟩
  ·simp at hm0
  ·rw[hv2]at hvb
   have hys1:=qe.length hone hys
   rw[Nat.mul_one]at hys1
   have hxs1:=qe.length hone hch
   rw[Nat.mul_one]at hxs1
   rw[hsz,Nat.mul_one]at hcs htake
   have hcsl:(ys.take (l.length-lo.toNat)).length=min l2.length (l.length-lo.toNat):=by rw[List.length_take,hys1];omega
   have had':=had g cur ⟨_,_,rfl⟩ (by omega) hg
   have hrun:=run_copy_row (P:=P) w T T' ty tid g lo.toNat (l.length-lo.toNat) cap ⟨b2,o2,none⟩ l2.length c2 cur tid (ys.take (l.length-lo.toNat)) hu his hg (hcsl.trans hmin.symm)
    (λj u hj=>hcells j u (by
     rw[List.getElem?_take]at hj
     by_cases hjj:j<l.length-lo.toNat
     ·rwa[if_pos hjj]at hj
     ·rw[if_neg hjj]at hj
      cases hj)) (by rw[hcsl,hcs];omega) (λu hu=>qe.all (λ_ _ _ hh=>qm.one e hh) hys u (List.mem_of_mem_take hu))
   rw[hcsl]at hrun
   generalize hnew:(cur.toList.take lo.toNat++ys.take (l.length-lo.toNat)++cur.toList.drop (lo.toNat+min l2.length (l.length-lo.toNat))).toArray=new at hrun
   have hwb:(w.setRow g new).heap[g]? = some (.cells new tid (0,0)):=setRow_heap w g cur _ tid _ hg
   have hwo:∀k,k≠g->(w.setRow g new).heap[k]? = w.heap[k]?:=λk hk=>setRow_other w g k _ hk
   have hszw:(w.setRow g new).heap.size=w.heap.size:=by simp[World.setRow]
   have hmw:jM (λk=>k=g) w (w.setRow g new):=⟨rfl,rfl,rfl,by omega,λk _ hM=>hwo k hM⟩
   have hgin:g∈(Φ id).fp:=by rw[k2];simp[Value.ownBlock]
   have hnl:new.size=cap0:=by
    rw[<-hnew]
    simp only[List.size_toArray,List.length_append,List.length_take,List.length_drop,Array.length_toList,hys1]
    omega
   have htk:new.toList.take l.length=qcz xs ys lo.toNat:=by
    rw[<-hnew,<-htake,<-hys1]
    exact qnJ cur.toList ys l.length lo.toNat (by have:=Array.length_toList (xs:=cur);omega) hlo
   have hrep2:qm P (.list true tid e) (w.setRow g new) H (qcz l l2 lo.toNat) [(Φ id).hdr] (Φ id).fp:=by
    refine⟨_,qcz xs ys lo.toNat,[],by rw[hhd],by rw[k2],⟨?_,.inr ⟨g,cap0,new,?_,Nat.zero_le _,hwb,?_,hcm,?_,?_⟩⟩,?_⟩
    ·rw[qdV _ _ (by omega),qdV _ _ hlo,hsz];omega
    ·rw[qdV _ _ hlo]
    ·rw[qdV _ _ hlo];exact hnc
    ·rw[hnl,hsz,Nat.mul_one]
    ·rw[qdV _ _ hlo,hsz,Nat.mul_one];exact htk
    ·refine qe.mono (λ_ _ _ hh=>?_) (qe.over hone hch hys lo.toNat)
     have hf0:=qm.fz_fp e hef hh
     subst hf0
     exact qm.mono e (FH.le_refl _) (by simp) hh
   have hch2:=hs.change ho (qcz l l2 lo.toNat) (Φ id) rfl rfl (FH.le_refl H) (hs.hok.mod hmw (λk hk=>by rw[hk];exact(hob g hgin).1)) hs.hnew (hs.mod.trans_new hmw (λk hk=>by rw[hk];exact(hob g hgin).2.1)) (by omega)
    (λj o' hj hoj b hb=>⟨hwo b (λe=>hs.disj id j _ o' (λe=>hj e.symm) ho hoj g hgin (e▸hb)),((hs.os j o' hoj).2 b hb).1⟩) (qK.of_list q1 q2 hrep2)
    (λb hb=>⟨(hob b hb).1,(hob b hb).2.1,by rw[hszw];exact(hob b hb).2.2,λj o' hj hoj hb'=>hs.disj id j _ o' (λe=>hj e.symm) ho hoj b hb hb'⟩)
   refine⟨_,h,qad (w':=w.setRow g new) (v:=goInt (min l2.length (l.length-lo.toNat):Nat)) ?_ ⟨H,_,hch2.setDst (by rw[hC.nt];exact hd) (qh.mk_int _ _ _ _ _ _)⟩⟩
   simp[execOp,resolve,invoke,builtin,hva,hv2,had',hrun]
  ·simp at hm0
theorem op_clear(hcfg:qu P cfg)(hC:qz C cfg){c:Call}(hc:c.callee = .builtin .clear)(hs:qg P C s a w H Φ)(hd:qF cfg.nt dst=true)(h:qG cfg ⟨dst,.call c,ty,pos,after,guard⟩ s k=some r):
  ∃s',k s'=some r/\qaG P C ⟨dst,.call c,ty,pos,after,guard⟩ a w s':=by
 simp only[qG,hc]at h
 split at h
 case h_2=>cases h
 split at h
 case h_2=>cases h
 unfold clearK at h
 cases h
end
end Go.Vi
namespace Go.Vi
section
variable {P:Program} {C:Ctx} {cfg:jG} {R:Type} {r:R} {s:St} {a:Act} {w:World} {H:FH} {Φ:Nat->qB} {dst:Option Nat} {ty:TypeId} {pos:String} {after:Array Edge} {guard:Option (Nat×Bool)} {k:St->Option R}
theorem qb1:(τ:Ty)->∀{x:τ.den} {p:List qq} {σ:Ty} {y:σ.den} {z},j1 τ x p σ y=some z->qci τ p=some σ
 |.pair a b,x,p,σ,y,z,h=>by
  match p with
  |[]=>obtain⟨e,_⟩:=qf h;subst e;rfl
  |.L::q=>obtain⟨z',h',_⟩:=Option.map_eq_some_iff.1 h;exact qb1 a h'
  |.R::q=>obtain⟨z',h',_⟩:=Option.map_eq_some_iff.1 h;exact qb1 b h'
  |.I _::_=>cases h
 |.str t,x,p,σ,y,z,h=>by
  match p with
  |[]=>obtain⟨e,_⟩:=qf h;subst e;rfl
  |s::q=>exact qb1 t h
 |.list true tid e,x,p,σ,y,z,h=>by
  match p with
  |[]=>obtain⟨e,_⟩:=qf h;subst e;rfl
  |.L::_=>cases h
  |.R::_=>cases h
  |.I i::q=>
   simp only[j1]at h
   split at h
   ·replace h:=Option.bind_eq_some_iff.1 h
    obtain⟨z',_,h⟩:=h
    replace h:=Option.map_eq_some_iff.1 h
    obtain⟨_,h,_⟩:=h
    exact qb1 e h
   ·cases h
 |.arr n e,x,p,σ,y,z,h=>by
  match p with
  |[]=>obtain⟨e,_⟩:=qf h;subst e;rfl
  |.L::_=>cases h
  |.R::_=>cases h
  |.I i::q=>
   simp only[j1]at h
   split at h
   ·replace h:=Option.bind_eq_some_iff.1 h
    obtain⟨z',_,h⟩:=h
    replace h:=Option.map_eq_some_iff.1 h
    obtain⟨_,h,_⟩:=h
    exact qb1 e h
   ·cases h
 |.op t,x,p,σ,y,z,h=>by
  match p with
  |[]=>obtain⟨e,_⟩:=qf h;subst e;rfl
  |.L::_=>cases h
  |.R::_=>cases h
  |.I i::q=>
   simp only[j1]at h
   replace h:=Option.bind_eq_some_iff.1 h
   obtain⟨z',_,h⟩:=h
   replace h:=Option.map_eq_some_iff.1 h
   obtain⟨_,h,_⟩:=h
   exact qb1 t h
 |.int _,_,p,_,_,_,h=>by cases p<;>first|(obtain⟨e,_⟩:=qf h;subst e;rfl)|cases h
 |.bool,_,p,_,_,_,h=>by cases p<;>first|(obtain⟨e,_⟩:=qf h;subst e;rfl)|cases h
 |.list false _ _,_,p,_,_,_,h=>by cases p<;>first|(obtain⟨e,_⟩:=qf h;subst e;rfl)|cases h
 |.ptr _,_,p,_,_,_,h=>by cases p<;>first|(obtain⟨e,_⟩:=qf h;subst e;rfl)|cases h
 |.fn _ _,_,p,_,_,_,h=>by cases p<;>first|(obtain⟨e,_⟩:=qf h;subst e;rfl)|cases h
 |.fn2 _ _ _,_,p,_,_,_,h=>by cases p<;>first|(obtain⟨e,_⟩:=qf h;subst e;rfl)|cases h
 |.ext _ _ _ _,_,p,_,_,_,h=>by cases p<;>first|(obtain⟨e,_⟩:=qf h;subst e;rfl)|cases h
theorem qeo{P:Program}{w:World}{H:FH}:(σ:Ty)->∀{y:σ.den} {c:List Value} {f:List Nat},σ.isBare=true->qm P σ w H y c f->∀v∈c,isHd v=false
 |.int _,y,c,f,_,h,v,hv=>by
  obtain⟨rfl,rfl⟩:=h
  rw[List.mem_singleton.1 hv]
  rfl
 |.bool,y,c,f,_,h,v,hv=>by
  obtain⟨rfl,rfl⟩:=h
  rw[List.mem_singleton.1 hv]
  rfl
 |.pair a b,y,c,f,hb,h,v,hv=>by
  simp only[Ty.isBare,Bool.and_eq_true]at hb
  obtain⟨c1,c2,f1,f2,rfl,rfl,r1,r2⟩:=h
  rcases List.mem_append.1 hv with hv|hv
  ·exact qeo a hb.1 r1 v hv
  ·exact qeo b hb.2 r2 v hv
 |.str t,y,c,f,hb,h,v,hv=>qeo t hb h v hv
 |.list _ _ _,_,_,_,hb,_,_,_=>by simp[Ty.isBare]at hb
 |.arr _ _,_,_,_,hb,_,_,_=>by simp[Ty.isBare]at hb
 |.ptr _,_,_,_,hb,_,_,_=>by simp[Ty.isBare]at hb
 |.op _,_,_,_,hb,_,_,_=>by simp[Ty.isBare]at hb
 |.fn _ _,_,_,_,hb,_,_,_=>by simp[Ty.isBare]at hb
 |.fn2 _ _ _,_,_,_,hb,_,_,_=>by simp[Ty.isBare]at hb
 |.ext _ _ _ _,_,_,_,hb,_,_,_=>by simp[Ty.isBare]at hb
theorem qcF:(σ:Ty)->∀{x x':σ.den} {q:List qq} {y},σ.isBare=true->qP σ x q=some y->∃y',qP σ x' q=some ⟨y.1,y'⟩
 |.int _,x,x',q,y,_,h=>by
  match q with
  |[]=>cases h;exact⟨x',rfl⟩
  |_::_=>cases h
 |.bool,x,x',q,y,_,h=>by
  match q with
  |[]=>cases h;exact⟨x',rfl⟩
  |_::_=>cases h
 |.pair a b,x,x',q,y,hb,h=>by
  simp only[Ty.isBare,Bool.and_eq_true]at hb
  match q with
  |[]=>cases h;exact⟨x',rfl⟩
  |.L::q=>exact qcF a (x':=x'.1) (q:=q) hb.1 h
  |.R::q=>exact qcF b (x':=x'.2) (q:=q) hb.2 h
  |.I _::_=>cases h
 |.str t,x,x',q,y,hb,h=>by
  match q with
  |[]=>cases h;exact⟨x',rfl⟩
  |s::q=>exact qcF t (x':=x') (q:=s::q) hb h
 |.list _ _ _,_,_,_,_,hb,_=>by simp[Ty.isBare]at hb
 |.arr _ _,_,_,_,_,hb,_=>by simp[Ty.isBare]at hb
 |.ptr _,_,_,_,_,hb,_=>by simp[Ty.isBare]at hb
 |.op _,_,_,_,_,hb,_=>by simp[Ty.isBare]at hb
 |.fn _ _,_,_,_,_,hb,_=>by simp[Ty.isBare]at hb
 |.fn2 _ _ _,_,_,_,_,hb,_=>by simp[Ty.isBare]at hb
 |.ext _ _ _ _,_,_,_,_,hb,_=>by simp[Ty.isBare]at hb
theorem qcr:(τ:Ty)->∀{x x':τ.den} {p q:List qq} {σ:Ty} {v:σ.den} {y},σ.isBare=true->qP τ x q=some y->j1 τ x p σ v=some x'->∃y',qP τ x' q=some ⟨y.1,y'⟩
 |.pair a b,x,x',p,q,σ,v,y,hb,hg,hs=>by
  match p,q with
  |[],q=>
   obtain⟨e,_⟩:=qf (by simpa[j1]using hs)
   subst e
   exact qcF _ hb hg
  |_::_,[]=>cases hg;exact⟨x',rfl⟩
  |.L::p,.L::q=>
   obtain⟨z,hz,rfl⟩:=Option.map_eq_some_iff.1 hs
   exact qcr a (p:=p) (q:=q) hb hg hz
  |.R::p,.R::q=>
   obtain⟨z,hz,rfl⟩:=Option.map_eq_some_iff.1 hs
   exact qcr b (p:=p) (q:=q) hb hg hz
  |.L::p,.R::q=>
   obtain⟨z,hz,rfl⟩:=Option.map_eq_some_iff.1 hs
   exact⟨y.2,hg⟩
  |.R::p,.L::q=>
   obtain⟨z,hz,rfl⟩:=Option.map_eq_some_iff.1 hs
   exact⟨y.2,hg⟩
  |.I _::_,_::_=>cases hs
  |.L::_,.I _::_=>cases hg
  |.R::_,.I _::_=>cases hg
 |.str t,x,x',p,q,σ,v,y,hb,hg,hs=>by
  match p,q with
  |[],q=>
   obtain⟨e,_⟩:=qf (by simpa[j1]using hs)
   subst e
   exact qcF _ hb hg
  |_::_,[]=>cases hg;exact⟨x',rfl⟩
  |s::p,s'::q=>exact qcr t (p:=s::p) (q:=s'::q) hb hg hs
 |.list true tid e,x,x',p,q,σ,v,y,hb,hg,hs=>by
  match p,q with
  |[],q=>
   obtain⟨e,_⟩:=qf (by simpa[j1]using hs)
   subst e
   simp[Ty.isBare]at hb
  |_::_,[]=>cases hg;exact⟨x',rfl⟩
  |.I i::p,.I j::q=>
   simp only[j1]at hs
   simp only[qP]at hg ⊢
   split at hs
   case isFalse=>cases hs
   split at hg
   case isFalse=>cases hg
   rename_i hj
   rw[if_pos hj]
   obtain⟨z,hz,hs⟩:=Option.bind_eq_some_iff.1 hs
   obtain⟨z',hz',rfl⟩:=Option.map_eq_some_iff.1 hs
   obtain⟨u,hu,hg⟩:=Option.bind_eq_some_iff.1 hg
   by_cases hij:i.toNat=j.toNat
   ·rw[hij]at hz ⊢
    rw[hz]at hu
    cases hu
    obtain⟨y',hy'⟩:=qcr e (p:=p) (q:=q) hb hg hz'
    have hlt:=(List.getElem?_eq_some_iff.1 hz).1
    rw[List.getElem?_set_self hlt]
    exact⟨y',hy'⟩
   ·rw[List.getElem?_set_ne hij,hu]
    exact⟨y.2,hg⟩
  |.L::_,_::_=>cases hs
  |.R::_,_::_=>cases hs
  |.I _::_,.L::_=>cases hg
  |.I _::_,.R::_=>cases hg
 |.arr m e,x,x',p,q,σ,v,y,hb,hg,hs=>by
  match p,q with
  |[],q=>
   obtain⟨e,_⟩:=qf (by simpa[j1]using hs)
   subst e
   simp[Ty.isBare]at hb
  |_::_,[]=>cases hg;exact⟨x',rfl⟩
  |.I i::p,.I j::q=>
   simp only[j1]at hs
   simp only[qP]at hg ⊢
   split at hs
   case isFalse=>cases hs
   split at hg
   case isFalse=>cases hg
   rename_i hj
   rw[if_pos hj]
   obtain⟨z,hz,hs⟩:=Option.bind_eq_some_iff.1 hs
   obtain⟨z',hz',rfl⟩:=Option.map_eq_some_iff.1 hs
   obtain⟨u,hu,hg⟩:=Option.bind_eq_some_iff.1 hg
   by_cases hij:i.toNat=j.toNat
   ·rw[hij]at hz ⊢
    rw[hz]at hu
    cases hu
    obtain⟨y',hy'⟩:=qcr e (p:=p) (q:=q) hb hg hz'
    have hlt:=(List.getElem?_eq_some_iff.1 hz).1
    rw[List.getElem?_set_self hlt]
    exact⟨y',hy'⟩
   ·rw[List.getElem?_set_ne hij,hu]
    exact⟨y.2,hg⟩
  |.L::_,_::_=>cases hs
  |.R::_,_::_=>cases hs
  |.I _::_,.L::_=>cases hg
  |.I _::_,.R::_=>cases hg
 |.op t,x,x',p,q,σ,v,y,hb,hg,hs=>by
  match p,q with
  |[],q=>
   obtain⟨e,_⟩:=qf (by simpa[j1]using hs)
   subst e
   simp[Ty.isBare]at hb
  |_::_,[]=>cases hg;exact⟨x',rfl⟩
  |.I i::p,.I j::q=>
   simp only[j1]at hs
   simp only[qP]at hg ⊢
   obtain⟨z,hz,hs⟩:=Option.bind_eq_some_iff.1 hs
   obtain⟨z',hz',rfl⟩:=Option.map_eq_some_iff.1 hs
   obtain⟨u,hu,hg⟩:=Option.bind_eq_some_iff.1 hg
   rw[hz]at hu
   cases hu
   exact qcr t (p:=p) (q:=q) hb hg hz'
  |.L::_,_::_=>cases hs
  |.R::_,_::_=>cases hs
  |.I _::_,.L::_=>cases hg
  |.I _::_,.R::_=>cases hg
 |.int _,x,x',p,q,σ,v,y,hb,hg,hs=>by
  match q with
  |[]=>cases hg;exact⟨x',rfl⟩
  |_::_=>cases hg
 |.bool,x,x',p,q,σ,v,y,hb,hg,hs=>by
  match q with
  |[]=>cases hg;exact⟨x',rfl⟩
  |_::_=>cases hg
 |.list false _ _,x,x',p,q,σ,v,y,hb,hg,hs=>by
  match q with
  |[]=>cases hg;exact⟨x',rfl⟩
  |_::_=>cases hg
 |.ptr _,x,x',p,q,σ,v,y,hb,hg,hs=>by
  match q with
  |[]=>cases hg;exact⟨x',rfl⟩
  |_::_=>cases hg
 |.fn _ _,x,x',p,q,σ,v,y,hb,hg,hs=>by
  match q with
  |[]=>cases hg;exact⟨x',rfl⟩
  |_::_=>cases hg
 |.fn2 _ _ _,x,x',p,q,σ,v,y,hb,hg,hs=>by
  match q with
  |[]=>cases hg;exact⟨x',rfl⟩
  |_::_=>cases hg
 |.ext _ _ _ _,x,x',p,q,σ,v,y,hb,hg,hs=>by
  match q with
  |[]=>cases hg;exact⟨x',rfl⟩
  |_::_=>cases hg
theorem qb0.fp{o:Obj}{φ:qB}{p:List qq}{b:Nat}(hok:qK P w H o φ)(h:qb0 P w H o φ p b):b∈φ.fp:=by
 unfold qb0 at h
 cases hr:o.row&&p.isEmpty with
 |true=>rw[hr]at h;exact h
 |false=>
  rw[hr]at h
  obtain⟨⟨σ,y⟩,bb,off,blk,t,f,q1,q2,q3,q4,q5⟩:=h
  obtain⟨b',o',blk',t',pre',c,post',f1,f',f2,e1,e2,e3,e4,e5,e6,hl',_⟩:=hok.desc2 (y:=y) q1 ⟨w,_,_,q2⟩ hr
  obtain⟨rfl,rfl⟩:=jS.det q2 (hl' w (λ_ _=>rfl))
  rw[e1]at q3
  cases q3
  have hsg:=qU e2 (qm.length σ e6)
  rw[e3]at hsg
  simp only[hsg]at q4
  rw[e4,qm.fp_det σ e6 q4]
  simp[q5]
theorem qg.storeAt(hs:qg P C s a w H Φ){id:Nat}{o:Obj}(ho:s.obj id=some o){p:List qq}(hp:(o.row&&p.isEmpty)=false){σ:Ty}{y:σ.den}(hg:qP o.τ o.x p=some ⟨σ,y⟩){b off:Nat}(hl:jS w o (Φ id) p b off)
  {T:TypeId} (hty:qN P T σ) {y':σ.den} {c':List Value} {f':List Nat} (hr:qm P σ w H y' c' f') (hnd':f'.Nodup)
  (hf':∀k∈f',H k=none/\(C.M0 k\/C.w0.heap.size<=k)/\k<w.heap.size/\(∀j o',j≠id->s.obj j=some o'->k∉(Φ j).fp)/\(k∈(Φ id).fp->qb0 P w H o (Φ id) p k))
  {x':o.τ.den} (hx:j1 o.τ o.x p σ y'=some x'):
  ∃w' φ,(Instr.storeAt T (.pointer (some ⟨b,off,none⟩)) (jZ σ c')).run P w = .ok () w'/\qg P C ((s.killIf (AV.staleP id o.row o.τ p)).setObj id (some ⟨o.row,o.τ,x'⟩)) a w' H (qaQ Φ id φ)/\
   (∀k∈φ.fp,k∈f'\/(k∈(Φ id).fp/\¬qb0 P w H o (Φ id) p k))/\(∀k,qb0 P w H o (Φ id) p k->w'.heap[k]? = w.heap[k]?)/\
   (∀k,k∉(Φ id).fp->w'.heap[k]? = w.heap[k]?)/\(o.row=false->p.any qq.isI=false->∀q,q.any qq.isI=false->qaF o.τ p q=true->qP o.τ x' q=qP o.τ o.x q->∀k,qb0 P w H o (Φ id) q k->qb0 P w' H ⟨o.row,o.τ,x'⟩ φ q k/\w'.heap[k]? = w.heap[k]?):=by
 have hok:=(hs.os id o ho).1
 have hob:=(hs.os id o ho).2
 obtain⟨b',o',blk',t',pre',c,post',f1,f,f2,e1,e2,e3,e4,e5,e6,hl',e7⟩:=hok.desc2 (y:=y) hg ⟨w,_,_,hl⟩ hp
 obtain⟨rfl,rfl⟩:=jS.det hl (hl' w (λ_ _=>rfl))
 have hnd:=hok.2.1
 rw[e4]at hnd
 have hin:∀k∈f1,k∈(Φ id).fp:=λk hk=>by rw[e4];simp[hk]
 have hin2:∀k∈f2,k∈(Φ id).fp:=λk hk=>by rw[e4];simp[hk]
 have hold:∀k∈f',k∈(Φ id).fp->k∈f:=by
  intro k hk hkφ
  have hin:=(hf' k hk).2.2.2.2 hkφ
  unfold qb0 at hin
  rw[hp]at hin
  obtain⟨y9,bb,off9,blk9,t9,f9,q1,q2,q3,q4,q5⟩:=hin
  rw[hg]at q1
  cases q1
  obtain⟨rfl,rfl⟩:=jS.det hl q2
  rw[e1]at q3
  cases q3
  have hsg:=qU e2 (qm.length σ e6)
  rw[e3]at hsg
  simp only[hsg]at q4
  rw[qm.fp_det σ e6 q4]
  exact q5
 have hnf1:∀k∈f',k∉f1:=by
  intro k hk hk1
  have:=hold k hk (hin k hk1)
  simp only[List.nodup_append,List.mem_append]at hnd
  exact hnd.1.2.2 k hk1 k this rfl
 have hnf2:∀k∈f',k∉f2:=by
  intro k hk hk2
  have:=hold k hk (hin2 k hk2)
  simp only[List.nodup_append,List.mem_append]at hnd
  exact hnd.2.2 k (.inr this) k hk2 rfl
 have hbin:b∈(Φ id).fp:=hin b e5
 have hrun:=qf2 hty e1 e2 (qm.length σ e6) (qm.length σ hr) (qm.one σ hr)
 rw[e3]at hrun
 have hwb:(w.setRow b (pre'++c'++post').toArray).heap[b]? = some (.cells (pre'++c'++post').toArray t' (0,0)):=setRow_heap w b blk' _ t' _ e1
 have hwo:∀k,k≠b->(w.setRow b (pre'++c'++post').toArray).heap[k]? = w.heap[k]?:=λk hk=>setRow_other w b k _ hk
 have hsz:(w.setRow b (pre'++c'++post').toArray).heap.size=w.heap.size:=by simp[World.setRow]
 have hmw:jM (λk=>k=b) w (w.setRow b (pre'++c'++post').toArray):=⟨rfl,rfl,rfl,by omega,λk _ hM=>hwo k hM⟩
 have hnd2:(f1++f'++f2).Nodup:=by
  simp only[List.nodup_append,List.mem_append]at hnd ⊢
  refine⟨⟨hnd.1.1,hnd',?_⟩,hnd.2.1,?_⟩
  ·rintro k hk _ hk' rfl;exact hnf1 k hk' hk
  ·rintro k (hk|hk) _ hk' rfl
   ·exact hnd.2.2 k (.inl hk) k hk' rfl
   ·exact hnf2 k hk hk'
 have hlc:c'.length=c.length:=(qm.length σ hr).trans (qm.length σ e6).symm
 have hchg:Chg P w (w.setRow b (pre'++c'++post').toArray) H b off ⟨σ,y⟩:=by
  refine⟨c,f,e6,λi hi=>?_,λk _ hk _=>hwo k hk,λi hi=>?_⟩
  ·rw[qy e1,<-Array.getElem?_toList,e2,<-e3,List.append_assoc,List.getElem?_append_right (by omega),List.getElem?_append_left (by omega)]
   congr 1
   omega
  ·have hl1:=qm.length σ e6
   rw[qy e1,qy hwb,<-Array.getElem?_toList,<-Array.getElem?_toList,e2,List.append_assoc,List.append_assoc]
   simp only at hi
   by_cases h1:i<pre'.length
   ·rw[List.getElem?_append_left h1,List.getElem?_append_left h1]
   ·rw[List.getElem?_append_right (by omega),List.getElem?_append_right (by omega),List.getElem?_append_right (by omega),List.getElem?_append_right (by omega),hlc]
 have hobj:=e7 _ c' f' σ y' x' (qm.mono σ (FH.le_refl H) (λk hk=>hwo k (λe=>hnf1 k hk (by rw[e];exact e5))) hr) hx hwb (λk _ hk=>hwo k hk) hnd2
 have hfp:∀k∈f1++f'++f2,H k=none/\(C.M0 k\/C.w0.heap.size<=k)/\k<w.heap.size/\∀j o',j≠id->s.obj j=some o'->k∉(Φ j).fp:=by
  intro k hk
  have old:k∈(Φ id).fp->H k=none/\(C.M0 k\/C.w0.heap.size<=k)/\k<w.heap.size/\∀j o',j≠id->s.obj j=some o'->k∉(Φ j).fp:=λhk=>
   ⟨(hob k hk).1,(hob k hk).2.1,(hob k hk).2.2,λj o' hj hoj=>hs.disj id j o o' (λe=>hj e.symm) ho hoj k hk⟩
  simp only[List.mem_append]at hk
  rcases hk with(hk|hk)|hk
  ·exact old (hin k hk)
  ·exact⟨(hf' k hk).1,(hf' k hk).2.1,(hf' k hk).2.2.1,(hf' k hk).2.2.2.1⟩
  ·exact old (hin2 k hk)
 have hinf:∀k,qb0 P w H o (Φ id) p k->k∈f:=by
  intro k hin
  unfold qb0 at hin
  rw[hp]at hin
  obtain⟨y9,bb,off9,blk9,t9,f9,q1,q2,q3,q4,q5⟩:=hin
  rw[hg]at q1
  cases q1
  obtain⟨rfl,rfl⟩:=jS.det hl q2
  rw[e1]at q3
  cases q3
  have hsg:=qU e2 (qm.length σ e6)
  rw[e3]at hsg
  simp only[hsg]at q4
  rw[qm.fp_det σ e6 q4]
  exact q5
 refine⟨_,⟨(Φ id).b,(Φ id).hdr,f1++f'++f2⟩,?_,hs.changeF (F:=AV.staleP id o.row o.τ p) ho x' _ rfl rfl (FH.le_refl H) (hs.hok.mod hmw (λk hk=>by rw[hk];exact(hob b hbin).1)) hs.hnew (hs.mod.trans_new hmw (λk hk=>by rw[hk];exact(hob b hbin).2.1)) (by omega) ?_ hobj ?_ (λq hf=>?_) (λ_ _ _ _ _=>rfl) ?_,λk hk=>?_,λk hk=>hwo k (λe=>?_),λk hk=>hwo k (λe=>hk (e▸hbin)),λhrow hps q hq hvo hgq k hk=>?_⟩
 ·simp[Instr.storeAt,Instr.sureAddr,hrun]
 ·intro j o' hj hoj k hk
  exact⟨hwo k (λe=>hs.disj id j o o' (λe=>hj e.symm) ho hoj b hbin (e▸hk)),((hs.os j o' hoj).2 k hk).1⟩
 ·intro k hk
  have:=hfp k hk
  exact⟨this.1,this.2.1,by rw[hsz];exact this.2.2.1,this.2.2.2⟩
 ·simp only[AV.staleP,Nat.beq_refl,Bool.true_and]at hf
  cases hq:q.any qq.isI with
  |false=>exact .inl rfl
  |true=>
   rw[hq,Bool.true_and,Bool.not_eq_false',Bool.or_eq_true]at hf
   right
   intro y2 hy2
   rcases hf with hf|hf
   case inr=>exact⟨λb2 off2 hl2=>(hok.stay ⟨rfl,rfl⟩ hf hg hy2 hl hl2 hchg x').1,qcB _ hf hy2 hx⟩
   unfold bareAt at hf
   rw[jD _ hg]at hf
   have hbare:σ.isBare=true:=hf
   refine⟨λb2 off2 hl2=>?_,qcr _ hbare hy2 hx⟩
   have hk:∀a ao v,isHd v=true->w.cell? ⟨a,ao,none⟩=some v->(w.setRow b (pre'++c'++post').toArray).cell? ⟨a,ao,none⟩=some v:=by
    intro a ao v hv ha
    by_cases hab:a=b
    ·subst hab
     rw[qy e1,<-Array.getElem?_toList,e2]at ha
     rw[qy hwb,<-Array.getElem?_toList]
     have hlc:c'.length=c.length:=(qm.length σ hr).trans (qm.length σ e6).symm
     simp only
     by_cases h1:ao<pre'.length
     ·rw[List.append_assoc,List.getElem?_append_left h1]at ha ⊢
      exact ha
     ·rw[List.append_assoc,List.getElem?_append_right (by omega)]at ha ⊢
      by_cases h2:ao-pre'.length<c.length
      ·rw[List.getElem?_append_left h2]at ha
       exact absurd (qeo σ hbare e6 _ (List.mem_of_getElem? ha)) (by rw[hv];simp)
      ·rw[List.getElem?_append_right (by omega)]at ha
       rw[List.getElem?_append_right (by omega),hlc]
       exact ha
    ·rw[World.cell?_of_block (a:=⟨a,ao,none⟩) (hwo a hab)]
     exact ha
   have:=jS.keep hk hl2
   obtain⟨row,τ,x0⟩:=o
   exact this
 ·intro q hf
  simp only[AV.staleP,Nat.beq_refl,Bool.true_and]at hf
  cases hrq:o.row&&q.isEmpty with
  |true=>exact .inl rfl
  |false=>
  right
  intro z b2 off2 blk2 t2 _ hg2 hl2 he2
  rw[hrq,Bool.not_false,Bool.true_and,Bool.not_eq_false']at hf
  obtain⟨k1,k2⟩:=hok.stay (φ':=⟨(Φ id).b,(Φ id).hdr,f1++f'++f2⟩) ⟨rfl,rfl⟩ (qbo _ hf) hg hg2 hl hl2 hchg x'
  obtain⟨z',hz'⟩:=qcB _ (qbo _ hf) hg2 hx
  obtain⟨blk3,t3,he3⟩:∃blk3 t3,(w.setRow b (pre'++c'++post').toArray).heap[b2]? = some (.cells blk3 t3 (0,0)):=by
   by_cases hb2:b2=b
   ·rw[hb2];exact⟨_,_,hwb⟩
   ·exact⟨_,_,(hwo _ hb2).trans he2⟩
  exact⟨⟨z.1,z'⟩,b2,off2,blk3,t3,rfl,hz',k1,he3,qh7 (k2 (.inl hf)) he2 he3⟩
 ·simp only[List.nodup_append,List.mem_append]at hnd
  rcases List.mem_append.1 hk with hk|hk
  ·rcases List.mem_append.1 hk with hk|hk
   ·exact .inr ⟨hin k hk,λhh=>hnd.1.2.2 k hk k (hinf k hh) rfl⟩
   ·exact .inl hk
  ·exact .inr ⟨hin2 k hk,λhh=>hnd.2.2 k (.inr (hinf k hh)) k hk rfl⟩
 ·simp only[List.nodup_append,List.mem_append]at hnd
  subst e
  exact hnd.1.2.2 k e5 k (hinf k hk) rfl
 ·have hrq:(o.row&&q.isEmpty)=false:=by rw[hrow];rfl
  have hk':=hk
  unfold qb0 at hk
  rw[hrq]at hk
  obtain⟨z,b2,off2,blk2,t2,fq,hg2,hl2,he2,hrz,hkq⟩:=hk
  have hb2:b2=(Φ id).b:=by
   have hl2:=hl2
   unfold jS at hl2
   simp only[hrow]at hl2
   exact jO.root _ hq hl2
  have hb:b=(Φ id).b:=by
   have hl:=hl
   unfold jS at hl
   simp only[hrow]at hl
   exact jO.root _ hps hl
  obtain⟨σ2,z⟩:=z
  obtain⟨b'',o'',blk'',t'',pre2,c2,post2,g1,g,g2,m1,m2,m3,m4,m5,m6,ml,_⟩:=hok.desc2 (y:=z) hg2 ⟨w,_,_,hl2⟩ hrq
  obtain⟨rfl,rfl⟩:=jS.det hl2 (ml w (λ_ _=>rfl))
  rw[he2]at m1
  cases m1
  have hsg:=qU m2 (qm.length σ2 m6)
  rw[m3]at hsg
  simp only[hsg]at hrz
  have hfq:fq=g:=qm.fp_det σ2 hrz m6
  have hndq:=hok.2.1
  rw[m4]at hndq
  simp only[List.nodup_append,List.mem_append]at hndq
  have hng:∀u∈g,u≠b:=λu hu e=>hndq.1.2.2 b2 m5 u hu (by rw[e,hb,<-hb2])
  have hkb:k≠b:=hng k (by rw[<-hfq];exact hkq)
  refine⟨?_,hwo k hkb⟩
  obtain⟨k1,k2⟩:=hok.stay (φ':=⟨(Φ id).b,(Φ id).hdr,f1++f'++f2⟩) ⟨rfl,rfl⟩ (qbo _ hvo) hg hg2 hl hl2 hchg x'
  obtain⟨blk3,t3,he3⟩:∃blk3 t3,(w.setRow b (pre'++c'++post').toArray).heap[b2]? = some (.cells blk3 t3 (0,0)):=by
   rw[hb2,<-hb];exact⟨_,_,hwb⟩
  have hsame:seg blk3 off2 σ2.size=seg blk2 off2 σ2.size:=qh7 (k2 (.inl hvo)) he2 he3
  unfold qb0
  have hrq2:((⟨o.row,o.τ,x'⟩:Obj).row&&q.isEmpty)=false:=hrq
  rw[hrq2]
  refine⟨⟨σ2,z⟩,b2,off2,blk3,t3,g,hgq.trans hg2,k1,he3,?_,by rw[<-hfq];exact hkq⟩
  simp only
  rw[hsame,hsg]
  exact qm.mono σ2 (FH.le_refl H) (λu hu=>hwo u (hng u hu)) m6
theorem qdg{R:Type}:∀{p q:List qq} {k:Option R} {r:R},qio p q k=some r->p=q/\k=some r
 |[],[],_,_,h=>⟨rfl,h⟩
 |.L::p,.L::q,_,_,h=>by obtain⟨rfl,h2⟩:=qdg (p:=p) (q:=q) h;exact⟨rfl,h2⟩
 |.R::p,.R::q,_,_,h=>by obtain⟨rfl,h2⟩:=qdg (p:=p) (q:=q) h;exact⟨rfl,h2⟩
 |.I i::p,.I j::q,_,_,h=>by
  simp only[qio,eqK]at h
  split at h
  ·rename_i e;subst e;obtain⟨rfl,h2⟩:=qdg h;exact⟨rfl,h2⟩
  ·cases h
 |[],_::_,_,_,h=>by cases h
 |.L::_,[],_,_,h=>by cases h
 |.R::_,[],_,_,h=>by cases h
 |.I _::_,[],_,_,h=>by cases h
 |.L::_,.R::_,_,_,h=>by cases h
 |.L::_,.I _::_,_,_,h=>by cases h
 |.R::_,.L::_,_,_,h=>by cases h
 |.R::_,.I _::_,_,_,h=>by cases h
 |.I _::_,.L::_,_,_,h=>by cases h
 |.I _::_,.R::_,_,_,h=>by cases h
theorem qc3{o:Oper}{w':World}{s':St}(hrun:(execOp a.eval o).run P w = .ok .skip w')(h:Sim P C s' (a.put o.dst undef) w'):qaG P C o a w s':=by
 unfold qaG
 rw[hrun]
 exact h
theorem qg.away{w':World}(hs:qg P C s a w H Φ){b:Nat}(hb:qaB C w H Φ s.obj b)(hm:jM (λk=>k=b) w w'):qg P C (s.killIf AV.isUpd) a w' H Φ:=by
 have hw:∀j o,s.obj j=some o->∀c∈(Φ j).fp,w'.heap[c]? = w.heap[c]?:=λj o ho c hc=>hm.block c ((hs.os j o ho).2 c hc).2.2 (λe=>hb.obj j o ho (by rw[<-e];exact hc))
 refine⟨hs.defers,hs.size,hs.le,hs.hok.mod hm (λk hk=>by rw[hk];exact hb.fz),hs.hnew,hs.mod.trans_new hm (λk hk=>by rw[hk];exact hb.may),?_,?_,hs.disj,hs.pins⟩
 ·intro t av ht
  rw[St.get_killIf]at ht
  obtain⟨av0,h0,rfl⟩:=Option.map_eq_some_iff.1 ht
  refine qh.transfer AV.isUpd (FH.le_refl _) ?_ ?_ ?_ av0 _ (hs.ts t av0 h0)
  ·intro j p v hf hr
   exact qh.ptr_stay (λo ho=>ho) rfl (λo ho=>⟨(hs.os j o ho).1,hw j o ho⟩) hr
  ·intro j p v hf hr
   exact qh.view_stay (λo ho=>ho) rfl (λo ho=>⟨(hs.os j o ho).1,hw j o ho⟩) hr
  ·intro j p t e l v hf;cases hf
 ·intro j o ho
  exact⟨(hs.os j o ho).1.frame (FH.le_refl _) (hw j o ho),λc hc=>⟨((hs.os j o ho).2 c hc).1,((hs.os j o ho).2 c hc).2.1,Nat.lt_of_lt_of_le ((hs.os j o ho).2 c hc).2.2 hm.size⟩⟩
theorem qmy(hcfg:qu P cfg)(hC:qz C cfg){T:TypeId}{x z:Operand}(hs:qg P C s a w H Φ)(hd:qF cfg.nt dst=true){av bv:AV}(he1:qh P C w H Φ s.obj av (a.eval x))(he2:qh P C w H Φ s.obj bv (a.eval z))
  (h:(reK s (lk cfg.ty T) av bv λs=>k (s.setDst dst .dead))=some r):∃s',k s'=some r/\qaG P C ⟨dst,.store T x z,ty,pos,after,guard⟩ a w s':=by
 unfold reK at h
 cases h
theorem op_reNil(hcfg:qu P cfg)(hC:qz C cfg){T:TypeId}{x z:Operand}(hs:qg P C s a w H Φ)(hd:qF cfg.nt dst=true){av:AV}(he1:qh P C w H Φ s.obj av (a.eval x))(hvz:a.eval z = .slice none 0 0)
  (h:(qmq s (lk cfg.ty T) av λs=>k (s.setDst dst .dead))=some r):∃s',k s'=some r/\qaG P C ⟨dst,.store T x z,ty,pos,after,guard⟩ a w s':=by
 unfold qmq at h
 cases h
theorem qg.frzFree(hs:qg P C s a w H Φ){fp:List Nat}(hfp:∀b∈fp,qaB C w H Φ s.obj b):qg P C (s.killIf AV.isUpd) a w (frz w H fp) Φ:=by
 have hle:=qgW (w:=w) (λb hb=>(hfp b hb).fz)
 refine⟨hs.defers,hs.size,FH.le_trans hs.le hle,qnz hs.hok,?_,hs.mod,?_,?_,hs.disj,hs.pins⟩
 ·intro b c hb
  rcases qkI hb with hb|hb
  ·exact hs.hnew b c hb
  ·exact .inr (hfp b hb).may
 ·intro t av ht
  rw[St.get_killIf]at ht
  obtain⟨av0,h0,rfl⟩:=Option.map_eq_some_iff.1 ht
  refine qh.transfer AV.isUpd hle ?_ ?_ ?_ av0 _ (hs.ts t av0 h0)
  ·intro j p v hf hr
   exact qh.ptr_stay (λo ho=>ho) rfl (λo ho=>⟨(hs.os j o ho).1,λ_ _=>rfl⟩) hr
  ·intro j p v hf hr
   exact qh.view_stay (λo ho=>ho) rfl (λo ho=>⟨(hs.os j o ho).1,λ_ _=>rfl⟩) hr
  ·intro j p t e l v hf;cases hf
 ·intro j o ho
  refine⟨(hs.os j o ho).1.frame hle (λ_ _=>rfl),λb hb=>⟨?_,((hs.os j o ho).2 b hb).2⟩⟩
  unfold frz
  rw[if_neg (λhh=>(hfp b hh).obj j o ho hb)]
  exact((hs.os j o ho).2 b hb).1
theorem op_take(hcfg:qu P cfg)(hC:qz C cfg){T:TypeId}{x z:Operand}{t0:Nat}(hs:qg P C s a w H Φ)(hd:qF cfg.nt dst=true){av:AV}(he1:qh P C w H Φ s.obj av (a.eval x))(hvz:a.eval z = .slice none 0 0)
  (h:(qfA s (lk cfg.ty T) av t0 λs=>k (s.setDst dst .dead))=some r):∃s',k s'=some r/\qaG P C ⟨dst,.store T x z,ty,pos,after,guard⟩ a w s':=by
 unfold qfA at h
 split at h
 case h_2=>cases h
 rename_i id p id' p' hg0
 obtain⟨o,y,b,off,h1,h2,h3,h4,hv⟩:=he1
 rw[h1]at h
 simp only at h
 cases hid:Nat.beq id id' with
 |false=>rw[hid]at h;cases h
 |true=>
 rw[hid,cond_true]at h
 obtain rfl:=Nat.eq_of_beq_eq_true hid
 replace h:=qdg h
 obtain⟨rfl,h⟩:=h
 rw[jJ,h3]at h
 obtain⟨σ,y⟩:=y
 simp only[Option.bind_some]at h
 split at h
 case h_2=>cases h
 rename_i tid e l
 cases hT:e.isFz&&(e.noFn&&decide (lk cfg.ty T=some (.list false tid e)))with
 |false=>rw[hT]at h;cases h
 |true=>
 rw[hT,cond_true,qar]at h
 simp only[Bool.and_eq_true,decide_eq_true_eq]at hT
 obtain⟨hef,hnf,hT⟩:=hT
 replace h:=Option.bind_eq_some_iff.1 h
 obtain⟨x',hx,h⟩:=h
 have hty:qN P T (.list true tid e):=qN.unfz (τ:=.list true tid e) (by simpa[Ty.fz,Ty.fz_of_isFz e hef]using(hcfg.ty T _ hT).1)
 obtain⟨w',φ,hrun,hsim,k1,k2,_⟩:=hs.storeAt h1 h2 h3 h4 hty (y':=([]:List e.den)) (c':=[.slice none 0 0]) (f':=[]) ⟨.slice none 0 0,[],[],rfl,rfl,World.ownsRow_nil w 0 tid e.size,rfl,rfl⟩ List.nodup_nil (by simp) hx
 obtain⟨cs,fp,hvv,hrep,hsub,_⟩:=qaX (hs.ts t0 _ hg0) h1 (hs.os id o h1).1 h3
 replace hrep:qm P (.list true tid e) w H l cs fp:=hrep
 replace hvv:a.tmps.getD t0 undef=jZ (.list true tid e) cs:=hvv
 obtain⟨hdr,xs,fp',rfl,rfl,how,hch⟩:=hrep
 have hf0:=qe.fp_nil (λ_ _ _ hh=>qm.fz_fp e hef hh) hch
 subst hf0
 have hinp:∀g,hdr.ownBlock=some g->qb0 P w H o (Φ id) p g:=by
  intro g hg
  unfold qb0
  rw[h2]
  obtain⟨o',y',q1,q2,q3⟩:=hs.ts t0 _ hg0
  rw[h1]at q1
  cases q1
  rw[h3]at q2
  cases q2
  rw[h2]at q3
  obtain⟨b2,off2,blk,t,q4,q5,q6⟩:=q3
  obtain⟨rfl,rfl⟩:=jS.det h4 q4
  obtain⟨b',o',blk',t',pre',c,post',f1,f,f2,e1,e2,e3,e4,e5,e6,hl',_⟩:=(hs.os id o h1).1.desc2 h3 ⟨w,_,_,h4⟩ h2
  obtain⟨rfl,rfl⟩:=jS.det h4 (hl' w (λ_ _=>rfl))
  have hsg:=qU e2 (qm.length _ e6)
  rw[e3]at hsg
  refine⟨_,b,off,_,t',f,h3,h4,e1,by simp only[hsg];exact e6,?_⟩
  rw[e1]at q5
  cases q5
  have hc:c=[hdr]:=by
   have hlc:=qm.length _ e6
   match c,hlc with
   |[u],_=>
    have e9:jZ (.list true tid e) [u]=jZ (.list true tid e) [hdr]:=by
     rw[<-hvv,q6]
     exact(congrArg (jZ (.list true tid e)) hsg).symm
    have:u=hdr:=e9
    rw[this]
  subst hc
  rw[qm.fp_det _ e6 ⟨hdr,xs,[],rfl,rfl,how,hch⟩,hg]
  simp
 have hfree:∀g∈hdr.ownBlock.toList,qaB C w' H (qaQ Φ id φ) ((s.killIf (AV.staleP id o.row o.τ p)).setObj id (some ⟨o.row,o.τ,x'⟩)).obj g:=by
  intro g hg
  have hg':hdr.ownBlock=some g:=by simpa using hg
  have hi:=hinp g hg'
  have hin:g∈(Φ id).fp:=qb0.fp (hs.os id o h1).1 hi
  obtain⟨p1,p2,p3⟩:=(hs.os id o h1).2 g hin
  refine⟨p1,λj o' hj hbj=>?_,p2,by
   exact(((hs.os id o h1).1.dat g hin).block (k2 g hi)).lt⟩
  rw[St.obj_setObj]at hj
  split at hj
  ·rename_i e1
   subst e1
   rw[qr]at hbj
   rcases k1 g hbj with hb|⟨_,hb⟩
   ·cases hb
   ·exact hb hi
  ·rename_i e1
   rw[qR _ _ (λe=>e1 e.symm)]at hbj
   exact hs.disj id j o o' e1 h1 hj g hin hbj
 have hs3:=hsim.frzFree hfree
 have hval:qh P C w' (frz w' H hdr.ownBlock.toList) (qaQ Φ id φ) ((((s.killIf (AV.staleP id o.row o.τ p)).setObj id (some ⟨o.row,o.τ,x'⟩))).killIf AV.isUpd).obj (.val (.list false tid e) l) (a.tmps.getD t0 undef):=by
  refine⟨by simp[Ty.isFz,hef],[hdr],hvv,?_⟩
  rcases how.2 with⟨rfl,h0⟩|⟨g,cap,cur,rfl,_,hg,hcap,_,hsz,htake⟩
  ·exact⟨rfl,none,0,by rw[h0],by rw[h0];exact Nat.le_refl _,.inl (List.length_eq_zero_iff.1 h0)⟩
  ·refine⟨rfl,some ⟨g,0,none⟩,cap,rfl,hcap,.inr ⟨g,0,cur,rfl,?_,?_⟩⟩
   ·refine qmX g (by simp[Value.ownBlock]) (.cells cur) ⟨tid,(0,0),?_⟩
    rw[k2 g (hinp g rfl)]
    exact hg
   ·rw[qdR,htake]
    exact qe.mono_fp (Q:=λ_=>False) (λ_ _ _ hf hh=>qm.mono e (qgW λb hb=>(hfree b hb).fz) (λk hk=>(hf k hk).elim) hh) (by simp) hch
 have hs4:=hs3.setAV (t:=t0) hval
 have hrun':(Instr.storeAt T (.pointer (some ⟨b,off,none⟩)) (.slice none 0 0)).run P w = .ok () w':=hrun
 refine⟨_,h,qc3 (w':=w') ?_ ⟨_,_,hs4.setDst (by rw[hC.nt];exact hd) trivial⟩⟩
 simp[execOp,hv,hvz,hrun']
theorem qkp(hcfg:qu P cfg)(hC:qz C cfg){T:TypeId}{x z:Operand}{t0:Nat}(hs:qg P C s a w H Φ)(hd:qF cfg.nt dst=true){av bv:AV}(he1:qh P C w H Φ s.obj av (a.eval x))(he2:qh P C w H Φ s.obj bv (a.eval z))
  (h:(qfB s (lk cfg.ty T) av bv t0 λs=>k (s.setDst dst .dead))=some r):∃s',k s'=some r/\qaG P C ⟨dst,.store T x z,ty,pos,after,guard⟩ a w s':=by
 unfold qfB at h
 split at h
 case h_2=>cases h
 rename_i id p id2 id' q tid e l hg0
 split at h
 case h_2=>cases h
 rename_i o o2 ho ho2
 cases hc: !o.row&&(o2.row&&(!Nat.beq id id2&&(Nat.beq id id'&&(!p.any qq.isI&&(!q.any qq.isI&&(j8 p q&&(qaF o.τ p q&&(e.isBare&&decide (lk cfg.ty T=some o2.τ.fz)))))))))with
 |false=>rw[hc]at h;cases h
 |true=>
 rw[hc,cond_true,qar]at h
 simp only[Bool.and_eq_true,Bool.not_eq_true',decide_eq_true_eq]at hc
 obtain⟨hrow,hrow2,hne,hid,hps,hqs,hdv,hvo,heb,hT⟩:=hc
 obtain rfl:=Nat.eq_of_beq_eq_true hid
 have hne:=Nat.ne_of_beq_eq_false hne
 replace h:=Option.bind_eq_some_iff.1 h
 obtain⟨x',hx,h⟩:=h
 obtain⟨o',y,b,off,h1,h2,h3,h4,hv⟩:=he1
 rw[ho]at h1
 cases h1
 have hty:=qN.unfz (hcfg.ty T _ hT).1
 have hyt:=jD _ h3
 have hyt2:=qb1 _ hx
 rw[hyt]at hyt2
 obtain⟨σ,y⟩:=y
 simp only[Option.some.injEq]at hyt2
 obtain⟨row2,τ2,x2⟩:=o2
 simp only at hyt2 hrow2 hx hT hty
 subst hyt2
 subst hrow2
 obtain⟨o2',y2,q1,q2,q3⟩:=he2
 rw[ho2]at q1
 cases q1
 simp only[List.isEmpty_nil,Bool.and_self]at q3
 obtain⟨hn2,hnd2,g3⟩:=(hs.os id2 _ ho2).1
 obtain⟨_,cs2,hcs2,hrep2⟩:=g3
 have hs2:=hs.remove id2
 have hob:((s.kill id2).setObj id2 none).obj id=some o:=by
  rw[St.obj_setObj,if_neg (λe=>hne e.symm)]
  exact ho
 obtain⟨w',φ,hrun,hsim,k1,_,k3,k4⟩:=hs2.storeAt hob h2 h3 h4 hty hrep2 hnd2 (by
  intro k hk
  obtain⟨p1,p2,p3⟩:=(hs.os id2 _ ho2).2 k hk
  refine⟨p1,p2,p3,λj o' hj hoj=>?_,λhk2=>absurd hk2 (hs.disj id2 id _ o (λe=>hne e.symm) ho2 ho k hk)⟩
  rw[St.obj_setObj]at hoj
  split at hoj
  ·cases hoj
  ·rename_i e
   exact hs.disj id2 j _ o' e ho2 hoj k hk) hx
 obtain⟨o9,u1,u2,u3,fp,u4,u5,u6⟩:=hs.ts t0 _ hg0
 rw[ho]at u1
 cases u1
 have hgq:=qcX o.τ hdv hx
 have hin:=k4 hrow hps q hqs hvo hgq
 have hsame:∀k∈fp,w'.heap[k]? = w.heap[k]?:=by
  intro k hk
  rcases(u6 k hk).2 with hh|hh
  ·exact k3 k (hh.obj id o ho)
  ·exact(hin k hh).2
 have hupd:qh P C w' H (qaQ Φ id φ) (((((s.kill id2).setObj id2 none).killIf (AV.staleP id o.row o.τ p)).setObj id (some ⟨o.row,o.τ,x'⟩)).obj) (.upd id q tid e l) (a.tmps.getD t0 undef):=by
  refine⟨⟨o.row,o.τ,x'⟩,by rw[St.obj_setObj,if_pos rfl],u2,u3,fp,u4,qm.mono (.list true tid e) (FH.le_refl H) hsame u5,λk hk=>?_⟩
  obtain⟨hlt,hh⟩:=u6 k hk
  have hlt':k<w'.heap.size:=by
   have e0:=hsame k hk
   rw[Array.getElem?_eq_getElem hlt]at e0
   exact(Array.getElem?_eq_some_iff.1 e0).1
  refine⟨hlt',hh.imp (λhh=>⟨hh.fz,λj o' hj hkj=>?_,hh.may,hlt'⟩) (λhh=>?_)⟩
  ·rw[St.obj_setObj]at hj
   by_cases hji:id=j
   ·subst hji
    rw[qr]at hkj
    rcases k1 k hkj with h5|h5
    ·exact hh.obj id2 _ ho2 h5
    ·exact hh.obj id o ho h5.1
   ·rw[if_neg hji]at hj
    rw[qR _ _ (λe=>hji e.symm)]at hkj
    have hj2:((s.kill id2).setObj id2 none).obj j=some o':=hj
    rw[St.obj_setObj]at hj2
    split at hj2
    ·cases hj2
    ·exact hh.obj j o' hj2 hkj
  ·rw[qr]
   exact(hin k hh).1
 refine⟨_,h,qc3 (w':=w') ?_ ⟨H,_,(hsim.setAV hupd).setDst (by rw[hC.nt];exact hd) trivial⟩⟩
 have hz:a.eval z=jZ σ cs2:=q3.trans hcs2
 simp[execOp,hv,hz,hrun]
theorem qnY(hcfg:qu P cfg)(hC:qz C cfg){T:TypeId}{x z:Operand}(hs:qg P C s a w H Φ)(hd:qF cfg.nt dst=true)(h:qkc cfg s dst T x z k=some r):
  ∃s',k s'=some r/\qaG P C ⟨dst,.store T x z,ty,pos,after,guard⟩ a w s':=by
 unfold qkc at h
 split at h
 case h_2=>cases h
 rename_i av bv he1 he2
 have hr:=qk hs qv he1
 have hr2:=qk hs (hcfg.fz T) he2
 cases hre:reHint cfg x with
 |true=>
  rw[hre,cond_true]at h
  cases hn0:qcW z with
  |true=>
   rw[hn0,cond_true]at h
   have hzv:a.eval z = .slice none 0 0:=by
    unfold qcW at hn0
    split at hn0
    ·rfl
    ·cases hn0
   exact op_reNil hcfg hC hs hd hr hzv h
  |false=>
   rw[hn0,cond_false]at h
   exact qmy hcfg hC hs hd hr hr2 h
 |false=>
 rw[hre,cond_false]at h
 cases hnil:qcW z&&qln s av with
 |true=>
  rw[hnil,cond_true]at h
  rw[Bool.and_eq_true]at hnil
  have hzv:a.eval z = .slice none 0 0:=by
   have:=hnil.1
   unfold qcW at this
   split at this
   ·rfl
   ·cases this
  split at h
  ·exact op_take hcfg hC hs hd hr hzv h
  unfold qjw at h
  split at h
  case h_2=>cases h
  rename_i id p
  obtain⟨o,y,b,off,h1,h2,h3,h4,hv⟩:=hr
  rw[h1]at h
  have hyt:=jD _ h3
  simp only[hyt]at h
  obtain⟨σ,y⟩:=y
  simp only at h hyt
  split at h
  case h_2=>cases h
  rename_i tid e hσ
  cases hσ
  cases hT:decide (lk cfg.ty T=some (.list false tid e.fz))with
  |false=>rw[hT]at h;cases h
  |true=>
  rw[hT,cond_true,qar]at h
  replace h:=Option.bind_eq_some_iff.1 h
  obtain⟨x',hx,h⟩:=h
  have hty:=qN.unfz (τ:=.list true tid e) (hcfg.ty T _ (of_decide_eq_true hT)).1
  obtain⟨w',φ,hrun,hsim,_⟩:=hs.storeAt h1 h2 h3 h4 hty (y':=([]:List e.den)) (c':=[.slice none 0 0]) (f':=[]) ⟨.slice none 0 0,[],[],rfl,rfl,World.ownsRow_nil w 0 tid e.size,rfl,rfl⟩ List.nodup_nil (by simp) hx
  have hrun':(Instr.storeAt T (.pointer (some ⟨b,off,none⟩)) (.slice none 0 0)).run P w = .ok () w':=hrun
  refine⟨_,h,qc3 (w':=w') ?_ ⟨H,_,hsim.setDst (by rw[hC.nt];exact hd) trivial⟩⟩
  simp[execOp,hv,hzv,hrun']
 |false=>
 rw[hnil,cond_false]at h
 split at h
 ·exact qkp hcfg hC hs hd hr hr2 h
 unfold storeK at h
 split at h
 case h_2=>cases h
 rename_i id p
 obtain⟨o,y,b,off,h1,h2,h3,h4,hv⟩:=hr
 rw[h1]at h
 have hyt:=jD _ h3
 simp only[h2,cond_false,hyt]at h
 obtain⟨σ,y⟩:=y
 simp only at h hyt
 cases hT:decide (lk cfg.ty T=some σ.fz)with
 |false=>rw[hT]at h;cases h
 |true=>
 rw[hT,cond_true]at h
 have hty:=qN.unfz (hcfg.ty T _ (of_decide_eq_true hT)).1
 have fin:∀{s2:St} {H2:FH} {v:Value} (hs2:qg P C s2 a w H2 Φ) (ho:s2.obj id=some o) {τ:Ty} {y':τ.den} {c':List Value} {f':List Nat},qm P τ w H2 y' c' f'->v=jZ τ c'->f'.Nodup->
   (∀k∈f',H2 k=none/\(C.M0 k\/C.w0.heap.size<=k)/\k<w.heap.size/\(∀j o',j≠id->s2.obj j=some o'->k∉(Φ j).fp)/\(k∈(Φ id).fp->qb0 P w H2 o (Φ id) p k))->
   ∀{x'},j1 o.τ o.x p τ y'=some x'->a.eval z=v->
   qaG P C ⟨dst,.store T x z,ty,pos,after,guard⟩ a w (((s2.killIf (AV.staleP id o.row o.τ p)).setObj id (some ⟨o.row,o.τ,x'⟩)).setDst dst .dead):=by
  intro s2 H2 v hs2 ho τ y' c' f' hrep hv' hnd hf x' hx hz
  have:=qb1 _ hx
  rw[hyt]at this
  cases this
  obtain⟨w',φ,hrun,hsim,_⟩:=hs2.storeAt ho h2 h3 h4 hty hrep hnd hf hx
  refine qc3 (w':=w') ?_ ⟨H2,_,hsim.setDst (by rw[hC.nt];exact hd) trivial⟩
  simp[execOp,hv,hz,hv',hrun]
 split at h
 ·-- a pending row
  rename_i id' p' tid e l
  cases hid:Nat.beq id id' with
  |false=>rw[hid]at h;cases h
  |true=>
  rw[hid,cond_true]at h
  obtain rfl:=Nat.eq_of_beq_eq_true hid
  replace h:=qdg h
  obtain⟨rfl,h⟩:=h
  rw[qar]at h
  replace h:=Option.bind_eq_some_iff.1 h
  obtain⟨x',hx,h⟩:=h
  obtain⟨o',q1,q3,q4,fp,q0,q5,q6⟩:=hr2
  rw[h1]at q1
  cases q1
  refine⟨_,h,fin hs h1 q5 rfl q0 ?_ hx rfl⟩
  intro b2 hb2
  obtain⟨hlt,hh⟩:=q6 b2 hb2
  rcases hh with hh|k1
  ·exact⟨hh.fz,hh.may,hlt,λj o' _ hj=>hh.obj j o' hj,λhk=>absurd hk (hh.obj id o h1)⟩
  ·have hb2':b2∈(Φ id).fp:=qb0.fp (hs.os id o h1).1 k1
   obtain⟨g1,g2,g3⟩:=(hs.os id o h1).2 b2 hb2'
   exact⟨g1,g2,g3,λj o' hj hoj=>hs.disj id j o o' (λe=>hj e.symm) h1 hoj b2 hb2',λ_=>k1⟩
 ·-- a row
  rename_i id2
  cases hid:Nat.beq id id2 with
  |true=>rw[hid]at h;cases h
  |false=>
  rw[hid,cond_false]at h
  have hne:=Nat.ne_of_beq_eq_false hid
  split at h
  case h_2=>cases h
  rename_i o2 ho2
  cases hrow:o2.row with
  |false=>rw[hrow]at h;cases h
  |true=>
  rw[hrow,cond_true]at h
  obtain⟨o2',y2,q1,q2,q3⟩:=hr2
  rw[ho2]at q1
  cases q1
  rw[hrow]at q3
  simp only[List.isEmpty_nil,Bool.and_self]at q3
  obtain⟨hn2,hnd2,g3⟩:=(hs.os id2 o2 ho2).1
  rw[hrow]at g3
  obtain⟨_,cs2,hcs2,hrep2⟩:=g3
  cases hfz:σ.isFz with
  |true=>
   rw[hfz,cond_true]at h
   simp only[qar]at h
   replace h:=Option.bind_eq_some_iff.1 h
   obtain⟨x',hx,h⟩:=h
   obtain⟨H',hle,hnew,hin,hs2⟩:=hs.freeze id2
   have hob:(s.freeze id2).obj id=some o:=by
    unfold St.freeze
    rw[ho2]
    show(St.setObj s id2 none).obj id=some o
    rw[St.obj_setObj,if_neg (λe=>hne e.symm)]
    exact h1
   refine⟨_,h,fin hs2 hob (qm.freezeX o2.τ hn2 w hle (hin o2 ho2) hrep2 _) ?_ (by simp) (by simp) hx q3⟩
   rw[qhW];exact hcs2
  |false=>
   rw[hfz,cond_false,qar]at h
   replace h:=Option.bind_eq_some_iff.1 h
   obtain⟨x',hx,h⟩:=h
   have hs2:=hs.remove id2
   have hob:((s.kill id2).setObj id2 none).obj id=some o:=by
    rw[St.obj_setObj,if_neg (λe=>hne e.symm)]
    exact h1
   refine⟨_,h,fin hs2 hob hrep2 ?_ hnd2 ?_ hx q3⟩
   ·exact hcs2
   ·intro k hk
    obtain⟨k1,k2,k3⟩:=(hs.os id2 o2 ho2).2 k hk
    refine⟨k1,k2,k3,λj o' hj hoj=>?_,λhk2=>absurd hk2 (hs.disj id2 id o2 o (λe=>hne e.symm) ho2 h1 k hk)⟩
    rw[St.obj_setObj]at hoj
    split at hoj
    ·cases hoj
    ·rename_i e
     exact hs.disj id2 j o2 o' e ho2 hoj k hk
 ·-- a value
  rename_i τ y'
  cases hf:τ.isFz with
  |false=>rw[hf]at h;cases h
  |true=>
  rw[hf,cond_true,qar]at h
  replace h:=Option.bind_eq_some_iff.1 h
  obtain⟨x',hx,h⟩:=h
  obtain⟨_,cs,hv2,hrep⟩:=hr2
  exact⟨_,h,fin hs h1 hrep rfl (by simp) (by simp) hx hv2⟩
 ·rename_i τ y'
  cases hf:τ.isFz with
  |false=>rw[hf]at h;cases h
  |true=>
  rw[hf,cond_true,qar]at h
  replace h:=Option.bind_eq_some_iff.1 h
  obtain⟨x',hx,h⟩:=h
  obtain⟨_,b2,o2,blk,hv2,hH,hrep⟩:=hr2
  have hrep':qm P (.ptr τ) w H (some y') [.pointer (some ⟨b2,o2,none⟩)] []:=⟨rfl,b2,o2,blk,rfl,hH,hrep⟩
  exact⟨_,h,fin hs h1 hrep' rfl (by simp) (by simp) hx hv2⟩
 ·cases h
theorem qcI:∀{p q:List qq},qO p q=true->p.any qq.isI=false
 |[],_,_=>rfl
 |.L::p,.L::q,h=>by simpa[qq.isI]using qcI (p:=p) (q:=q) (by simpa[qO,qq.same]using h)
 |.R::p,.R::q,h=>by simpa[qq.isI]using qcI (p:=p) (q:=q) (by simpa[qO,qq.same]using h)
 |.L::_,.R::_,h=>by simp[qO,qq.same]at h
 |.L::_,.I _::_,h=>by simp[qO,qq.same]at h
 |.R::_,.L::_,h=>by simp[qO,qq.same]at h
 |.R::_,.I _::_,h=>by simp[qO,qq.same]at h
 |.I _::_,.L::_,h=>by simp[qO,qq.same]at h
 |.I _::_,.R::_,h=>by simp[qO,qq.same]at h
 |.I _::_,.I _::_,h=>by simp[qO,qq.same]at h
 |_::_,[],h=>by simp[qO]at h
theorem qbB:∀{p q:List qq},qO p q=true->p=q
 |[],[],_=>rfl
 |.L::p,.L::q,h=>by rw[qbB (p:=p) (q:=q) (by simpa[qO,qq.same]using h)]
 |.R::p,.R::q,h=>by rw[qbB (p:=p) (q:=q) (by simpa[qO,qq.same]using h)]
 |.L::_,.R::_,h=>by simp[qO,qq.same]at h
 |.L::_,.I _::_,h=>by simp[qO,qq.same]at h
 |.R::_,.L::_,h=>by simp[qO,qq.same]at h
 |.R::_,.I _::_,h=>by simp[qO,qq.same]at h
 |.I _::_,.L::_,h=>by simp[qO,qq.same]at h
 |.I _::_,.R::_,h=>by simp[qO,qq.same]at h
 |.I _::_,.I _::_,h=>by simp[qO,qq.same]at h
 |[],_::_,h=>by simp[qO]at h
 |_::_,[],h=>by simp[qO]at h
theorem setRow_self{w:World}{b:Nat}{blk:Array Value}{t:TypeId}{f:Nat×Nat}(h:w.heap[b]? = some (.cells blk t f)):w.setRow b blk=w:=by
 obtain⟨hlt,he⟩:=Array.getElem?_eq_some_iff.1 h
 have e:(w.setRow b blk).heap=w.heap:=by
  unfold World.setRow
  apply Array.ext
  ·simp
  ·intro i h1 h2
   simp only[Array.getElem_modify]
   split
   ·rename_i hbi
    subst hbi
    rw[he]
   ·rfl
 calc w.setRow b blk={w with heap:=(w.setRow b blk).heap}:=rfl
  _=w:=by rw[e]
theorem op_self(hcfg:qu P cfg)(hC:qz C cfg){T:TypeId}{x z:Operand}{id:Nat}{p:List qq}(hs:qg P C s a w H Φ)(hd:qF cfg.nt dst=true)(hself:qh6 s x z=some (id,p))(h:selfK s (lk cfg.ty T) id p (λs=>k (s.setDst dst .dead))=some r):
  ∃s',k s'=some r/\qaG P C ⟨dst,.store T x z,ty,pos,after,guard⟩ a w s':=by
 unfold qh6 at hself
 split at hself
 case h_2=>cases hself
 rename_i id1 p1 id2 q he1 he2
 cases hq:Nat.beq id1 id2&&qO p1 q with
 |false=>rw[hq]at hself;cases hself
 |true=>
 rw[hq,cond_true]at hself
 cases hself
 rw[Bool.and_eq_true]at hq
 obtain rfl:=Nat.eq_of_beq_eq_true hq.1
 obtain rfl:=qbB hq.2
 obtain⟨o,y,b,off,h1,h2,h3,h4,hv⟩:=qk hs qv he1
 obtain⟨o',y',k1,k2,k3⟩:=qk hs qv he2
 rw[h1]at k1
 cases k1
 rw[h3]at k2
 cases k2
 rw[h2]at k3
 obtain⟨b',off',blk,t,k4,k5,k6⟩:=k3
 obtain⟨rfl,rfl⟩:=jS.det h4 k4
 unfold selfK at h
 rw[h1]at h
 have hyt:=jD _ h3
 simp only[h2,cond_false,hyt]at h
 obtain⟨σ,y⟩:=y
 simp only at h hyt k6
 split at h
 case h_3=>cases h
 case h_2=>
  rename_i τ hne hσ
  cases hσ
  cases hT:decide (lk cfg.ty T=some σ.fz)with
  |false=>rw[hT]at h;cases h
  |true=>
  rw[hT,cond_true]at h
  have hty:=qN.unfz (τ:=σ) (hcfg.ty T _ (of_decide_eq_true hT)).1
  obtain⟨b',o',blk',t',pre',c,post',f1,f,f2,e1,e2,e3,e4,e5,e6,hl',_⟩:=(hs.os id o h1).1.desc2 h3 ⟨w,_,_,h4⟩ h2
  obtain⟨rfl,rfl⟩:=jS.det h4 (hl' w (λ_ _=>rfl))
  rw[k5]at e1
  cases e1
  have hlen:=qm.length _ e6
  have hseg:seg blk off σ.size=c:=by rw[<-e3];exact qU e2 hlen
  have hzv:a.eval z=jZ σ c:=by rw[k6,hseg]
  have hrun:=qf2 hty k5 e2 hlen hlen (qm.one _ e6)
  rw[<-e2,Array.toArray_toList,e3,setRow_self k5]at hrun
  have hrun':(Instr.storeAt T (.pointer (some ⟨b,off,none⟩)) (jZ σ c)).run P w = .ok () w:=hrun
  refine⟨_,h,qc3 (w':=w) ?_ ⟨H,_,hs.setDst (by rw[hC.nt];exact hd) trivial⟩⟩
  simp[execOp,hv,hzv,hrun']
 rename_i tid e hσ
 cases hσ
 cases hT:e.isFz&&decide (lk cfg.ty T=some (.list false tid e.fz))with
 |false=>rw[hT]at h;cases h
 |true=>
 rw[hT,cond_true,jJ,h3]at h
 rw[Bool.and_eq_true]at hT
 simp only[Option.bind_some,qar]at h
 replace h:=Option.bind_eq_some_iff.1 h
 obtain⟨x',hx,h⟩:=h
 have hty:=qN.unfz (τ:=.list true tid e) (hcfg.ty T _ (of_decide_eq_true hT.2)).1
 obtain⟨b',o',blk',t',pre',c,post',f1,f,f2,e1,e2,e3,e4,e5,e6,hl',_⟩:=(hs.os id o h1).1.desc2 h3 ⟨w,_,_,h4⟩ h2
 obtain⟨rfl,rfl⟩:=jS.det h4 (hl' w (λ_ _=>rfl))
 rw[k5]at e1
 cases e1
 obtain⟨hdr,xs,fp',rfl,hf,ho,hch⟩:=e6
 have hf0:=qe.fp_nil (λ_ _ _ hh=>qm.fz_fp e hT.1 hh) hch
 subst hf0
 rw[List.append_nil]at hf
 subst hf
 have hrep:qm P (.list true tid e) w H y [hdr] hdr.ownBlock.toList:=⟨hdr,xs,[],rfl,by simp,ho,hch⟩
 have hseg:seg blk off (Ty.list true tid e).size=[hdr]:=by rw[<-e3];exact qU e2 rfl
 have hzv:a.eval z=hdr:=by rw[k6,hseg];rfl
 have hcell:w.cell? ⟨b,off,none⟩=some hdr:=by
  rw[qy k5,<-Array.getElem?_toList,e2,<-e3]
  simp
 obtain⟨w',φ,hrun,hsim,_⟩:=hs.storeAt h1 h2 h3 h4 hty (y':=y) (c':=[hdr]) hrep (by cases hdr.ownBlock<;>simp) (by
  intro k hk
  have hk':k∈(Φ id).fp:=by rw[e4];simp[hk]
  obtain⟨g1,g2,g3⟩:=(hs.os id o h1).2 k hk'
  exact⟨g1,g2,g3,λj o' hj hoj=>hs.disj id j o o' (λe=>hj e.symm) h1 hoj k hk',λ_=>by
   unfold qb0
   rw[h2]
   exact⟨⟨.list true tid e,y⟩,b,off,_,_,hdr.ownBlock.toList,h3,h4,k5,by simp only[hseg];exact hrep,hk⟩⟩) hx
 have hrun':(Instr.storeAt T (.pointer (some ⟨b,off,none⟩)) hdr).run P w = .ok () w':=hrun
 refine⟨_,h,qc3 (w':=w') ?_ ⟨H,_,hsim.setDst (by rw[hC.nt];exact hd) trivial⟩⟩
 simp[execOp,hv,hzv,hrun']
theorem op_store(hcfg:qu P cfg)(hC:qz C cfg){T:TypeId}{x z:Operand}(hs:qg P C s a w H Φ)(hd:qF cfg.nt dst=true)(h:qG cfg ⟨dst,.store T x z,ty,pos,after,guard⟩ s k=some r):
  ∃s',k s'=some r/\qaG P C ⟨dst,.store T x z,ty,pos,after,guard⟩ a w s':=by
 simp only[qG]at h
 split at h
 ·rename_i id p hself
  exact op_self hcfg hC hs hd hself h
 ·obtain⟨H',hs'⟩:=hs.frzOp z
  exact qnY hcfg hC hs' hd h
end
end Go.Vi
namespace Go.Vi
section
variable {P:Program} {C:Ctx} {cfg:jG} {R:Type} {r:R} {s:St} {a:Act} {w:World} {H:FH} {Φ:Nat->qB} {dst:Option Nat} {ty:TypeId} {pos:String} {after:Array Edge} {guard:Option (Nat×Bool)} {k:St->Option R}
def qc0(css:List (List Value)):List (Nat×Value)->List (List Value)
 |[]=>css
 |(i,v)::r=>qc0 (css.set i v.cells.toList) r
theorem qhm{α:Type}:∀(css:List (List α)) (i:Nat) (c d:List α),css[i]? = some c->∃pre post,css.flatten=pre++c++post/\(css.set i d).flatten=pre++d++post/\pre.length=((css.take i).map List.length).sum
 |[],i,c,d,h=>by simp at h
 |x::css,0,c,d,h=>by
  simp only[List.getElem?_cons_zero,Option.some.injEq]at h
  subst h
  exact⟨[],css.flatten,by simp,by simp,by simp⟩
 |x::css,i+1,c,d,h=>by
  obtain⟨pre,post,e1,e2,e3⟩:=qhm css i c d (by simpa using h)
  exact⟨x++pre,post,by simp[e1],by simp[e2],by simp[e3]⟩
theorem qiW(pre mid post:List Value)(l:Array Value)(cells:Array Value)(h:cells.toList=pre++mid++post)(hl:l.size=mid.length):
  (l.zipIdx.foldl (λcs (x:Value×Nat)=>cs.setIfInBounds (pre.length+x.2) x.1) cells).toList=pre++l.toList++post:=by
 rw[<-Array.foldl_toList,Array.toList_zipIdx]
 obtain⟨h1,h2⟩:=Great.foldl_set pre.length l.toList 0 cells
 have hsz:cells.size=pre.length+mid.length+post.length:=by rw[<-Array.length_toList,h];simp[Nat.add_assoc]
 apply List.ext_getElem?
 intro k
 rw[Array.getElem?_toList,h2 k,<-Array.getElem?_toList,h]
 simp only[Nat.add_zero,Array.length_toList]
 by_cases hk:pre.length<=k/\k<pre.length+l.size/\k<cells.size
 ·rw[if_pos hk,List.append_assoc,List.getElem?_append_right hk.1,List.getElem?_append_left (by rw[Array.length_toList (xs:=l)];omega)]
 ·rw[if_neg hk]
  by_cases hk1:k<pre.length
  ·rw[List.append_assoc,List.append_assoc,List.getElem?_append_left hk1,List.getElem?_append_left hk1]
  ·rw[List.getElem?_append_right (by simp;omega),List.getElem?_append_right (by simp;omega)]
   simp[hl]
theorem qhp(place:Nat->Option (Nat×Nat))(szs:List Nat)(hplace:∀i n,szs[i]? = some n->place i=some ((szs.take i).sum,n)):
  ∀(parts:List (Nat×Value)) (css:List (List Value)) (cells:Array Value),css.map List.length=szs->cells.toList=css.flatten->(∀x∈parts,szs[x.1]? = some x.2.cells.size)->
   ∃cells',Instr.fill place cells parts=some cells'/\cells'.toList=(qc0 css parts).flatten
 |[],css,cells,_,h,_=>⟨cells,rfl,h⟩
 |(i,v)::rest,css,cells,hs,h,hp=>by
  have hi:=hp (i,v) List.mem_cons_self
  simp only at hi
  have hc:∃c,css[i]? = some c/\c.length=v.cells.size:=by
   rw[<-hs,List.getElem?_map]at hi
   obtain⟨c,h1,h2⟩:=Option.map_eq_some_iff.1 hi
   exact⟨c,h1,h2⟩
  obtain⟨c,hc,hl⟩:=hc
  obtain⟨pre,post,e1,e2,e3⟩:=qhm css i c v.cells.toList hc
  have hpre:pre.length=(szs.take i).sum:=by rw[e3,<-hs,List.map_take]
  have hfold:=qiW pre c post v.cells cells (by rw[h,e1]) hl.symm
  have hsz:cells.size=pre.length+c.length+post.length:=by rw[<-Array.length_toList,h,e1];simp[Nat.add_assoc]
  unfold Instr.fill
  rw[hplace i _ hi]
  simp only
  rw[if_neg (by simp;omega),<-hpre]
  refine qhp place szs hplace rest (css.set i v.cells.toList) _ ?_ (by rw[e2];exact hfold) (λx hx=>hp x (List.mem_cons_of_mem _ hx))
  rw[List.map_set,Array.length_toList,<-hs]
  apply List.ext_getElem?
  intro j
  rw[List.getElem?_set]
  split
  ·rename_i e
   subst e
   split
   ·rw[List.getElem?_map,hc,Option.map_some,hl]
   ·rename_i hn
    simp only[List.length_map,Nat.not_lt]at hn
    rw[List.getElem?_eq_none (by simpa using hn)]
  ·rfl
theorem qa6{n:Nat}:∀{l:List Nat},jY n l=true↔n∈l
 |[]=>by simp[jY]
 |m::r=>by
  simp only[jY,Bool.or_eq_true,List.mem_cons,qa6 (l:=r)]
  constructor
  ·rintro(h|h)
   ·exact .inl (Nat.eq_of_beq_eq_true h).symm
   ·exact .inr h
  ·rintro(h|h)
   ·subst h;exact .inl (Nat.beq_refl _)
   ·exact .inr h
theorem qcg:∀{l r:List Nat},apart l r=true->l.Nodup/\∀x∈l,x∉r
 |[],_,_=>by simp
 |m::l,r,h=>by
  simp only[apart,Bool.and_eq_true,Bool.not_eq_true']at h
  obtain⟨⟨h1,h2⟩,h3⟩:=h
  obtain⟨h4,h5⟩:=qcg h3
  have h1':m∉l:=λhm=>by rw[qa6.2 hm]at h1;cases h1
  have h2':m∉r:=λhm=>by rw[qa6.2 hm]at h2;cases h2
  refine⟨List.nodup_cons.2 ⟨h1',h4⟩,?_⟩
  intro x hx
  rcases List.mem_cons.1 hx with rfl|hx
  ·exact h2'
  ·exact h5 x hx
theorem jQ{α:Type}(m n:Nat)(a:α)(r:List (Nat×α)):lk ((m,a)::r) n=bif Nat.beq m n then some a else lk r n:=rfl
theorem qef{α:Type}{n:Nat}:∀{l:List (Nat×α)},n∉l.map (·.1)->lk l n=none
 |[],_=>rfl
 |(m,a)::l,h=>by
  simp only[List.map_cons,List.mem_cons,not_or]at h
  unfold lk
  have:Nat.beq m n=false:=by
   cases hb:Nat.beq m n with
   |false=>rfl
   |true=>exact absurd (Nat.eq_of_beq_eq_true hb).symm h.1
  rw[this]
  exact qef h.2
theorem qfj:∀(parts:List (Nat×Value)) (css:List (List Value)),(parts.map (·.1)).Nodup->∀i,i<css.length->(qc0 css parts)[i]? = match lk parts i with|some v=>some v.cells.toList|none=>css[i]?
 |[],css,_,i,_=>rfl
 |(j,v)::rest,css,hnd,i,hi=>by
  simp only[List.map_cons,List.nodup_cons]at hnd
  unfold qc0
  rw[qfj rest _ hnd.2 i (by simpa using hi)]
  rw[jQ]
  cases hb:Nat.beq j i with
  |true=>
   obtain rfl:=Nat.eq_of_beq_eq_true hb
   rw[qef hnd.1]
   simp[hi]
  |false=>
   have:=Nat.ne_of_beq_eq_false hb
   simp[List.getElem?_set_ne this]
theorem qdQ:∀(parts:List (Nat×Value)) (css:List (List Value)),(qc0 css parts).length=css.length
 |[],_=>rfl
 |(j,v)::rest,css=>by unfold qc0;rw[qdQ rest];simp
theorem qfP(place:Nat->Option (Nat×Nat))(parts:List (Nat×Value))(zs css:List (List Value))(cells:Array Value)(hplace:∀i z,zs[i]? = some z->place i=some (((zs.take i).map List.length).sum,z.length))(hcells:cells.toList=zs.flatten)
  (hnd:(parts.map (·.1)).Nodup) (hin:∀x∈parts,x.1<zs.length) (hlen:css.length=zs.length) (hcs:∀i c,css[i]? = some c->(∀z,zs[i]? = some z->c.length=z.length)/\match lk parts i with|some v=>v.cells.toList=c|none=>zs[i]? = some c):
  ∃cells',Instr.fill place cells parts=some cells'/\cells'.toList=css.flatten:=by
 have hlk:∀{l:List (Nat×Value)},(l.map (·.1)).Nodup->∀x∈l,lk l x.1=some x.2:=by
  intro l
  induction l with
  |nil=>intro _ x hx;cases hx
  |cons y l ih=>
   intro hnd x hx
   simp only[List.map_cons,List.nodup_cons]at hnd
   obtain⟨j,v⟩:=y
   unfold lk
   rcases List.mem_cons.1 hx with rfl|hx
   ·simp[Nat.beq_refl]
   ·have:Nat.beq j x.1=false:=by
     cases hb:Nat.beq j x.1 with
     |false=>rfl
     |true=>
      have:=Nat.eq_of_beq_eq_true hb
      exact absurd (List.mem_map.2 ⟨x,hx,this.symm⟩) hnd.1
    rw[this]
    exact ih hnd.2 x hx
 obtain⟨cells',h1,h2⟩:=qhp place (zs.map List.length) (λi n hn=>by
  rw[List.getElem?_map]at hn
  obtain⟨z,h3,h4⟩:=Option.map_eq_some_iff.1 hn
  rw[hplace i z h3,<-List.map_take,h4]) parts zs cells rfl hcells (λx hx=>by
  have hlt:=hin x hx
  have hlt2:x.1<css.length:=by omega
  obtain⟨h3,h4⟩:=hcs x.1 css[x.1] (List.getElem?_eq_getElem hlt2)
  rw[hlk hnd x hx]at h4
  simp only at h4
  rw[List.getElem?_map,List.getElem?_eq_getElem hlt,Option.map_some,<-h3 _ (List.getElem?_eq_getElem hlt),<-h4,Array.length_toList])
 refine⟨cells',h1,?_⟩
 rw[h2]
 congr 1
 apply List.ext_getElem?
 intro i
 by_cases hi:i<zs.length
 ·rw[qfj parts zs hnd i hi]
  have hi2:i<css.length:=by omega
  obtain⟨_,h4⟩:=hcs i css[i] (List.getElem?_eq_getElem hi2)
  rw[List.getElem?_eq_getElem hi2]
  cases hv:lk parts i with
  |some v=>rw[hv]at h4;simp only at h4 ⊢;rw[h4]
  |none=>rw[hv]at h4;exact h4
 ·rw[List.getElem?_eq_none (by rw[qdQ];omega),List.getElem?_eq_none (by omega)]
theorem qd9{s0:St}{H0:FH}{parts:List (Nat×AV)}{vals:List (Nat×Value)}(hparts:∀n,(lk parts n=none/\lk vals n=none)\/∃av v,lk parts n=some av/\lk vals n=some v/\qh P C w H0 Φ s0.obj av v)
  (hs:qg P C s a w H Φ) (hle:H0.le H) (hsub:∀id o,s.obj id=some o->s0.obj id=some o) {τ:Ty} (hn:τ.noFn=true) {n:Nat} {s':St} {x:τ.den} (h:qea s parts τ n=some (s',x)):
  ∃H' c,H.le H'/\qg P C s' a w H' Φ/\(∀id o,s'.obj id=some o->s.obj id=some o)/\qm P τ w H' x c []/\(∀b c,H' b=some c->H b=some c\/∃id o,s.obj id=some o/\b∈(Φ id).fp)/\(match lk vals n with|some v=>v=jZ τ c|none=>c=τ.zeroCells):=by
 unfold qea at h
 rcases hparts n with⟨h1,h2⟩|⟨av,v,h1,h2,hr⟩
 ·rw[h1]at h
  cases h
  exact⟨H,_,FH.le_refl _,hs,λ_ _ h=>h,qm.zero τ hn,λ_ _ h=>.inl h,by rw[h2]⟩
 ·rw[h1]at h
  rw[h2]
  split at h
  ·rename_i e;cases e
  ·rename_i σ y e
   cases e
   split at h
   ·rename_i y' hy
    cases h
    obtain⟨e,hy⟩:=qf hy
    subst e
    subst hy
    obtain⟨_,cs,hv,hrep⟩:=hr
    exact⟨H,cs,FH.le_refl _,hs,λ_ _ h=>h,qm.mono _ hle (by simp) hrep,λ_ _ h=>.inl h,hv⟩
   ·cases h
  ·rename_i σ y e
   cases e
   split at h
   ·rename_i y' hy
    cases h
    obtain⟨e,hy⟩:=qf hy
    subst e
    subst hy
    obtain⟨_,b,o,blk,hv,hH,hrep⟩:=hr
    exact⟨H,[v],FH.le_refl _,hs,λ_ _ h=>h,⟨rfl,b,o,blk,by rw[hv],hle _ _ hH,qm.mono _ hle (by simp) hrep⟩,λ_ _ h=>.inl h,rfl⟩
   ·cases h
  ·rename_i id e
   cases e
   split at h
   ·rename_i o ho
    cases hrow:o.row with
    |false=>rw[hrow]at h;cases h
    |true=>
     rw[hrow,cond_true]at h
     split at h
     ·rename_i y' hy
      cases h
      obtain⟨e,hy⟩:=qf hy
      subst e
      subst hy
      obtain⟨o',y2,q1,q2,q3⟩:=hr
      rw[hsub id o ho]at q1
      cases q1
      rw[hrow]at q3
      simp only[List.isEmpty_nil,Bool.and_self]at q3
      obtain⟨hn2,_,g3⟩:=(hs.os id o ho).1
      rw[hrow]at g3
      obtain⟨_,cs,hcs,hrep⟩:=g3
      obtain⟨H',hle',hnw,hin,hs'⟩:=hs.freeze id
      refine⟨H',cs,hle',hs',?_,qm.freezeX o.τ hn2 w hle' (hin o ho) hrep _,λb c hb=>(hnw b c hb).imp_right (λhh=>⟨id,hh⟩),?_⟩
      ·intro j o2 hj
       unfold St.freeze at hj
       rw[ho]at hj
       have hj':(St.setObj s id none).obj j=some o2:=hj
       rw[St.obj_setObj]at hj'
       split at hj'
       ·cases hj'
       ·exact hj'
      ·simp only[q3]
       rw[qhW]
       exact hcs
     ·cases h
   ·cases h
  ·cases h
def fts:Ty->List Ty
 |.pair a b=>a::fts b
 |t=>[t]
theorem qny:(τ:Ty)->∀{i},qaD τ i=true->i<(fts τ).length
 |.pair a b,0,_=>by simp[fts]
 |.pair a b,i+1,h=>by simpa[fts]using qny b h
 |.int _,i,h=>by have:=Nat.eq_of_beq_eq_true h;subst this;simp[fts]
 |.bool,i,h=>by have:=Nat.eq_of_beq_eq_true h;subst this;simp[fts]
 |.list _ _ _,i,h=>by have:=Nat.eq_of_beq_eq_true h;subst this;simp[fts]
 |.str _,i,h=>by have:=Nat.eq_of_beq_eq_true h;subst this;simp[fts]
 |.ptr _,i,h=>by have:=Nat.eq_of_beq_eq_true h;subst this;simp[fts]
 |.op _,i,h=>by have:=Nat.eq_of_beq_eq_true h;subst this;simp[fts]
 |.arr _ _,i,h=>by have:=Nat.eq_of_beq_eq_true h;subst this;simp[fts]
 |.fn _ _,i,h=>by have:=Nat.eq_of_beq_eq_true h;subst this;simp[fts]
 |.fn2 _ _ _,i,h=>by have:=Nat.eq_of_beq_eq_true h;subst this;simp[fts]
 |.ext _ _ _ _,i,h=>by have:=Nat.eq_of_beq_eq_true h;subst this;simp[fts]
theorem qiS:(τ:Ty)->τ.zeroCells=((fts τ).map Ty.zeroCells).flatten
 |.pair a b=>by simp[fts,Ty.zeroCells,qiS b]
 |.int _=>by simp[fts]
 |.bool=>by simp[fts]
 |.list _ _ _=>by simp[fts]
 |.str _=>by simp[fts]
 |.ptr _=>by simp[fts]
 |.op _=>by simp[fts]
 |.arr _ _=>by simp[fts]
 |.fn _ _=>by simp[fts]
 |.fn2 _ _ _=>by simp[fts]
 |.ext _ _ _ _=>by simp[fts]
theorem qbQ(τ:Ty)(h1:fts τ=[τ])(h2:∀l o,(tyB P τ).2 l o=(match l with|[x]=>Nat.beq x.offset o&&(tyB P τ).1 x.type|_=>false)){l:List Field}{o:Nat}(h:j5 P τ l o):
  (∀σ∈fts τ,∃t,qN P t σ)/\l.mapM (λf=>(P.info? f.type).map λi=>(f.offset,i.size))=some ((List.range (fts τ).length).map λi=>(o+(((fts τ).take i).map Ty.size).sum,(((fts τ)[i]?).map Ty.size).getD 0)):=by
 unfold j5 at h
 rw[h2]at h
 split at h
 ·rename_i f
  rw[Bool.and_eq_true]at h
  have e:=Nat.eq_of_beq_eq_true h.1
  have ht:qN P f.type τ:=h.2
  obtain⟨i,hi,hsz,_⟩:=ht.info
  rw[h1]
  refine⟨λσ hσ=>⟨f.type,by rw[List.mem_singleton.1 hσ];exact ht⟩,?_⟩
  simp[hi,hsz,e]
 ·cases h
theorem qiT:(τ:Ty)->∀{l:List Field} {o:Nat},j5 P τ l o->
  (∀σ∈fts τ,∃t,qN P t σ)/\l.mapM (λf=>(P.info? f.type).map λi=>(f.offset,i.size))=some ((List.range (fts τ).length).map λi=>(o+(((fts τ).take i).map Ty.size).sum,(((fts τ)[i]?).map Ty.size).getD 0))
 |.pair a b,l,o,h=>by
  unfold j5 tyB at h
  simp only at h
  split at h
  ·rename_i f g rest
   simp only[Bool.and_eq_true]at h
   obtain⟨⟨h1,h2⟩,h3⟩:=h
   have e:=Nat.eq_of_beq_eq_true h1
   have ht:qN P f.type a:=h2
   obtain⟨i,hi,hsz,_⟩:=ht.info
   obtain⟨k1,k2⟩:=qiT b (l:=g::rest) (o:=o+a.size) h3
   refine⟨?_,?_⟩
   ·intro σ hσ
    rcases List.mem_cons.1 hσ with rfl|hσ
    ·exact⟨f.type,ht⟩
    ·exact k1 σ hσ
   ·rw[List.mapM_cons,k2]
    simp only[hi,fts,List.length_cons,List.range_succ_eq_map,Option.map_some]
    simp[e,hsz,Nat.add_assoc,Function.comp_def]
  ·cases h
 |.int k,_,_,h=>qbQ (.int k) rfl (λ_ _=>rfl) h
 |.bool,_,_,h=>qbQ (.bool) rfl (λ_ _=>rfl) h
 |.list a b c,_,_,h=>qbQ (.list a b c) rfl (λ_ _=>rfl) h
 |.str t,_,_,h=>qbQ (.str t) rfl (λ_ _=>rfl) h
 |.ptr t,_,_,h=>qbQ (.ptr t) rfl (λ_ _=>rfl) h
 |.op t,_,_,h=>qbQ (.op t) rfl (λ_ _=>rfl) h
 |.arr n e,_,_,h=>qbQ (.arr n e) rfl (λ_ _=>rfl) h
 |.fn a b,_,_,h=>qbQ (.fn a b) rfl (λ_ _=>rfl) h
 |.fn2 a b c,_,_,h=>qbQ (.fn2 a b c) rfl (λ_ _=>rfl) h
 |.ext o n i j,_,_,h=>qbQ (.ext o n i j) rfl (λ_ _=>rfl) h
theorem qbr{s0:St}{H0:FH}{parts:List (Nat×AV)}{vals:List (Nat×Value)}(hparts:∀n,(lk parts n=none/\lk vals n=none)\/∃av v,lk parts n=some av/\lk vals n=some v/\qh P C w H0 Φ s0.obj av v)
  (τ:Ty) (h1:fts τ=[τ]) (h2:∀s n,qjJ s parts τ n=qea s parts τ n) {s:St} {H:FH} {n:Nat} {s':St} {x:τ.den} (hs:qg P C s a w H Φ) (hle:H0.le H) (hsub:∀id o,s.obj id=some o->s0.obj id=some o) (hn:τ.noFn=true) (h:qjJ s parts τ n=some (s',x)):
  ∃(H':FH) (css:List (List Value)),H.le H'/\qg P C s' a w H' Φ/\(∀id o,s'.obj id=some o->s.obj id=some o)/\qm P τ w H' x css.flatten []/\css.length=(fts τ).length/\
   ∀i σ,(fts τ)[i]? = some σ->∃c,css[i]? = some c/\c.length=σ.size/\(∀v∈c,v.oneCell'=true)/\match lk vals (n+i)with|some v=>v=jZ σ c|none=>c=σ.zeroCells:=by
 rw[h2]at h
 obtain⟨H',c,k1,k2,k3,k4,_,k5⟩:=qd9 hparts hs hle hsub hn h
 rw[h1]
 refine⟨H',[c],k1,k2,k3,by simpa using k4,rfl,?_⟩
 intro i σ hi
 match i with
 |0=>
  simp only[List.getElem?_cons_zero,Option.some.injEq]at hi
  subst hi
  exact⟨c,rfl,qm.length _ k4,qm.one _ k4,k5⟩
 |i+1=>simp at hi
theorem qlw{s0:St}{H0:FH}{parts:List (Nat×AV)}{vals:List (Nat×Value)}(hparts:∀n,(lk parts n=none/\lk vals n=none)\/∃av v,lk parts n=some av/\lk vals n=some v/\qh P C w H0 Φ s0.obj av v):
  (τ:Ty)->∀{s:St} {H:FH} {n:Nat} {s':St} {x:τ.den},qg P C s a w H Φ->H0.le H->(∀id o,s.obj id=some o->s0.obj id=some o)->τ.noFn=true->qjJ s parts τ n=some (s',x)->
  ∃(H':FH) (css:List (List Value)),H.le H'/\qg P C s' a w H' Φ/\(∀id o,s'.obj id=some o->s.obj id=some o)/\qm P τ w H' x css.flatten []/\css.length=(fts τ).length/\
   ∀i σ,(fts τ)[i]? = some σ->∃c,css[i]? = some c/\c.length=σ.size/\(∀v∈c,v.oneCell'=true)/\match lk vals (n+i)with|some v=>v=jZ σ c|none=>c=σ.zeroCells
 |.pair t1 t2,s,H,n,s',x,hs,hle,hsub,hn,h=>by
  simp only[Ty.noFn,Bool.and_eq_true]at hn
  unfold qjJ at h
  split at h
  ·rename_i s1 x1 h1
   split at h
   ·rename_i s2 x2 h2
    cases h
    obtain⟨H1,c,k1,k2,k3,k4,_,k5⟩:=qd9 hparts hs hle hsub hn.1 h1
    obtain⟨H2,css,m1,m2,m3,m4,m5,m6⟩:=qlw hparts t2 k2 (FH.le_trans hle k1) (λid o ho=>hsub id o (k3 id o ho)) hn.2 h2
    refine⟨H2,c::css,FH.le_trans k1 m1,m2,λid o ho=>k3 id o (m3 id o ho),⟨c,css.flatten,[],[],by simp,rfl,qm.mono _ m1 (by simp) k4,m4⟩,by simp[fts,m5],?_⟩
    intro i σ hi
    match i with
    |0=>
     simp only[fts,List.getElem?_cons_zero,Option.some.injEq]at hi
     subst hi
     exact⟨c,rfl,qm.length _ k4,qm.one _ k4,k5⟩
    |i+1=>
     obtain⟨c',q1,q2,q3,q4⟩:=m6 i σ (by simpa[fts]using hi)
     exact⟨c',by simpa using q1,q2,q3,by rw[show n+(i+1)=n+1+i by omega];exact q4⟩
   ·cases h
  ·cases h
 |.int k,_,_,_,_,_,hs,hle,hsub,hn,h=>qbr hparts (.int k) rfl (λ_ _=>rfl) hs hle hsub hn h
 |.bool,_,_,_,_,_,hs,hle,hsub,hn,h=>qbr hparts (.bool) rfl (λ_ _=>rfl) hs hle hsub hn h
 |.list a b c,_,_,_,_,_,hs,hle,hsub,hn,h=>qbr hparts (.list a b c) rfl (λ_ _=>rfl) hs hle hsub hn h
 |.str t,_,_,_,_,_,hs,hle,hsub,hn,h=>qbr hparts (.str t) rfl (λ_ _=>rfl) hs hle hsub hn h
 |.ptr t,_,_,_,_,_,hs,hle,hsub,hn,h=>qbr hparts (.ptr t) rfl (λ_ _=>rfl) hs hle hsub hn h
 |.op t,_,_,_,_,_,hs,hle,hsub,hn,h=>qbr hparts (.op t) rfl (λ_ _=>rfl) hs hle hsub hn h
 |.arr n e,_,_,_,_,_,hs,hle,hsub,hn,h=>qbr hparts (.arr n e) rfl (λ_ _=>rfl) hs hle hsub hn h
 |.fn a b,_,_,_,_,_,hs,hle,hsub,hn,h=>qbr hparts (.fn a b) rfl (λ_ _=>rfl) hs hle hsub hn h
 |.fn2 a b c,_,_,_,_,_,hs,hle,hsub,hn,h=>qbr hparts (.fn2 a b c) rfl (λ_ _=>rfl) hs hle hsub hn h
theorem qip{s0:St}{H0:FH}{parts:List (Nat×AV)}{vals:List (Nat×Value)}(hparts:∀n,(lk parts n=none/\lk vals n=none)\/∃av v,lk parts n=some av/\lk vals n=some v/\qh P C w H0 Φ s0.obj av v)
  (hs:qg P C s a w H Φ) (hle:H0.le H) (hsub:∀id o,s.obj id=some o->s0.obj id=some o) {τ:Ty} (hn:τ.noFn=true) {n:Nat} {s':St} {x:τ.den} (h:qf8 s parts τ n=some (s',x)):
  ∃H' c fp,H.le H'/\qg P C s' a w H' Φ/\(∀id o,s'.obj id=some o->s.obj id=some o)/\qm P τ w H' x c fp/\fp.Nodup/\(∀b∈fp,qaB C w H' Φ s'.obj b/\¬qaB C w H Φ s.obj b)/\(∀b,qaB C w H Φ s.obj b->qaB C w H' Φ s'.obj b)/\(match lk vals n with|some v=>v=jZ τ c|none=>c=τ.zeroCells):=by
 unfold qf8 at h
 cases hf:τ.isFz with
 |true=>
  rw[hf,cond_true]at h
  obtain⟨H',c,k1,k2,k3,k4,k5,k6⟩:=qd9 hparts hs hle hsub hn h
  refine⟨H',c,[],k1,k2,k3,k4,List.nodup_nil,by simp,λb hb=>⟨?_,λid o ho=>hb.obj id o (k3 id o ho),hb.may,hb.lt⟩,k6⟩
  cases hq:H' b with
  |none=>rfl
  |some c=>
   rcases k5 b c hq with h1|⟨id,o,ho,hb'⟩
   ·rw[hb.fz]at h1;cases h1
   ·exact absurd hb' (hb.obj id o ho)
 |false=>
  rw[hf,cond_false]at h
  rcases hparts n with⟨h1,h2⟩|⟨av,v,h1,h2,hr⟩
  ·rw[h1]at h
   cases h
   exact⟨H,_,[],FH.le_refl _,hs,λ_ _ h=>h,qm.zero τ hn,List.nodup_nil,by simp,λ_ h=>h,by rw[h2]⟩
  ·rw[h1]at h
   rw[h2]
   split at h
   ·rename_i e;cases e
   ·rename_i id e
    cases e
    split at h
    ·rename_i o ho
     cases hrow:o.row with
     |false=>rw[hrow]at h;cases h
     |true=>
      rw[hrow,cond_true]at h
      split at h
      ·rename_i y' hy
       cases h
       obtain⟨e,hy⟩:=qf hy
       obtain⟨row,σ,ox⟩:=o
       simp only at e hrow
       subst e
       subst hrow
       subst hy
       obtain⟨o',y2,q1,q2,q3⟩:=hr
       rw[hsub id _ ho]at q1
       cases q1
       simp only[List.isEmpty_nil,Bool.and_self]at q3
       obtain⟨hn2,hnd,g3⟩:=(hs.os id _ ho).1
       obtain⟨_,cs,hcs,hrep⟩:=g3
       have hfr:=(hs.os id _ ho).2
       refine⟨H,cs,(Φ id).fp,FH.le_refl _,hs.remove id,?_,hrep,hnd,?_,?_,?_⟩
       ·intro j o2 hj
        rw[St.obj_setObj]at hj
        split at hj
        ·cases hj
        ·exact hj
       ·intro b hb
        obtain⟨p1,p2,p3⟩:=hfr b hb
        refine⟨⟨p1,λj o2 hj=>?_,p2,p3⟩,λhh=>hh.obj id _ ho hb⟩
        rw[St.obj_setObj]at hj
        split at hj
        ·cases hj
        ·rename_i hne
         exact hs.disj id j _ o2 hne ho hj b hb
       ·intro b hb
        refine⟨hb.fz,λj o2 hj=>?_,hb.may,hb.lt⟩
        rw[St.obj_setObj]at hj
        split at hj
        ·cases hj
        ·exact hb.obj j o2 hj
       ·simp only[q3]
        exact hcs
      ·cases h
    ·cases h
   ·cases h
theorem qbq{s0:St}{H0:FH}{parts:List (Nat×AV)}{vals:List (Nat×Value)}(hparts:∀n,(lk parts n=none/\lk vals n=none)\/∃av v,lk parts n=some av/\lk vals n=some v/\qh P C w H0 Φ s0.obj av v)
  (τ:Ty) (h1:fts τ=[τ]) (h2:∀s n,qjI s parts τ n=qf8 s parts τ n) {s:St} {H:FH} {n:Nat} {s':St} {x:τ.den} (hs:qg P C s a w H Φ) (hle:H0.le H) (hsub:∀id o,s.obj id=some o->s0.obj id=some o) (hn:τ.noFn=true) (h:qjI s parts τ n=some (s',x)):
  ∃(H':FH) (css:List (List Value)) (fp:List Nat),H.le H'/\qg P C s' a w H' Φ/\(∀id o,s'.obj id=some o->s.obj id=some o)/\qm P τ w H' x css.flatten fp/\css.length=(fts τ).length/\fp.Nodup/\(∀b∈fp,qaB C w H' Φ s'.obj b/\¬qaB C w H Φ s.obj b)/\(∀b,qaB C w H Φ s.obj b->qaB C w H' Φ s'.obj b)/\
   ∀i σ,(fts τ)[i]? = some σ->∃c,css[i]? = some c/\c.length=σ.size/\(∀v∈c,v.oneCell'=true)/\match lk vals (n+i)with|some v=>v=jZ σ c|none=>c=σ.zeroCells:=by
 rw[h2]at h
 obtain⟨H',c,fp,k1,k2,k3,k4,k6,k7,k8,k5⟩:=qip hparts hs hle hsub hn h
 rw[h1]
 refine⟨H',[c],fp,k1,k2,k3,by simpa using k4,rfl,k6,k7,k8,?_⟩
 intro i σ hi
 match i with
 |0=>
  simp only[List.getElem?_cons_zero,Option.some.injEq]at hi
  subst hi
  exact⟨c,rfl,qm.length _ k4,qm.one _ k4,k5⟩
 |i+1=>simp at hi
theorem qlv{s0:St}{H0:FH}{parts:List (Nat×AV)}{vals:List (Nat×Value)}(hparts:∀n,(lk parts n=none/\lk vals n=none)\/∃av v,lk parts n=some av/\lk vals n=some v/\qh P C w H0 Φ s0.obj av v):
  (τ:Ty)->∀{s:St} {H:FH} {n:Nat} {s':St} {x:τ.den},qg P C s a w H Φ->H0.le H->(∀id o,s.obj id=some o->s0.obj id=some o)->τ.noFn=true->qjI s parts τ n=some (s',x)->
  ∃(H':FH) (css:List (List Value)) (fp:List Nat),H.le H'/\qg P C s' a w H' Φ/\(∀id o,s'.obj id=some o->s.obj id=some o)/\qm P τ w H' x css.flatten fp/\css.length=(fts τ).length/\fp.Nodup/\(∀b∈fp,qaB C w H' Φ s'.obj b/\¬qaB C w H Φ s.obj b)/\(∀b,qaB C w H Φ s.obj b->qaB C w H' Φ s'.obj b)/\
   ∀i σ,(fts τ)[i]? = some σ->∃c,css[i]? = some c/\c.length=σ.size/\(∀v∈c,v.oneCell'=true)/\match lk vals (n+i)with|some v=>v=jZ σ c|none=>c=σ.zeroCells
 |.pair t1 t2,s,H,n,s',x,hs,hle,hsub,hn,h=>by
  simp only[Ty.noFn,Bool.and_eq_true]at hn
  unfold qjI at h
  split at h
  ·rename_i s1 x1 h1
   split at h
   ·rename_i s2 x2 h2
    cases h
    obtain⟨H1,c,fp1,k1,k2,k3,k4,k6,k7,k8,k5⟩:=qip hparts hs hle hsub hn.1 h1
    obtain⟨H2,css,fp2,m1,m2,m3,m4,m5,m7,m8,m9,m6⟩:=qlv hparts t2 k2 (FH.le_trans hle k1) (λid o ho=>hsub id o (k3 id o ho)) hn.2 h2
    refine⟨H2,c::css,fp1++fp2,FH.le_trans k1 m1,m2,λid o ho=>k3 id o (m3 id o ho),⟨c,css.flatten,fp1,fp2,by simp,rfl,qm.mono _ m1 (λ_ _=>rfl) k4,m4⟩,by simp[fts,m5],?_,?_,λb hb=>m9 b (k8 b hb),?_⟩
    ·rw[List.nodup_append]
     refine⟨k6,m7,?_⟩
     rintro b hb1 _ hb2 rfl
     exact(m8 b hb2).2 (k7 b hb1).1
    ·intro b hb
     rcases List.mem_append.1 hb with hb|hb
     ·exact⟨m9 b (k7 b hb).1,(k7 b hb).2⟩
     ·exact⟨(m8 b hb).1,λhh=>(m8 b hb).2 (k8 b hh)⟩
    ·intro i σ hi
     match i with
     |0=>
      simp only[fts,List.getElem?_cons_zero,Option.some.injEq]at hi
      subst hi
      exact⟨c,rfl,qm.length _ k4,qm.one _ k4,k5⟩
     |i+1=>
      obtain⟨c',q1,q2,q3,q4⟩:=m6 i σ (by simpa[fts]using hi)
      exact⟨c',by simpa using q1,q2,q3,by rw[show n+(i+1)=n+1+i by omega];exact q4⟩
   ·cases h
  ·cases h
 |.int k,_,_,_,_,_,hs,hle,hsub,hn,h=>qbq hparts (.int k) rfl (λ_ _=>rfl) hs hle hsub hn h
 |.bool,_,_,_,_,_,hs,hle,hsub,hn,h=>qbq hparts (.bool) rfl (λ_ _=>rfl) hs hle hsub hn h
 |.list a b c,_,_,_,_,_,hs,hle,hsub,hn,h=>qbq hparts (.list a b c) rfl (λ_ _=>rfl) hs hle hsub hn h
 |.str t,_,_,_,_,_,hs,hle,hsub,hn,h=>qbq hparts (.str t) rfl (λ_ _=>rfl) hs hle hsub hn h
 |.ptr t,_,_,_,_,_,hs,hle,hsub,hn,h=>qbq hparts (.ptr t) rfl (λ_ _=>rfl) hs hle hsub hn h
 |.op t,_,_,_,_,_,hs,hle,hsub,hn,h=>qbq hparts (.op t) rfl (λ_ _=>rfl) hs hle hsub hn h
 |.arr n e,_,_,_,_,_,hs,hle,hsub,hn,h=>qbq hparts (.arr n e) rfl (λ_ _=>rfl) hs hle hsub hn h
 |.fn a b,_,_,_,_,_,hs,hle,hsub,hn,h=>qbq hparts (.fn a b) rfl (λ_ _=>rfl) hs hle hsub hn h
 |.fn2 a b c,_,_,_,_,_,hs,hle,hsub,hn,h=>qbq hparts (.fn2 a b c) rfl (λ_ _=>rfl) hs hle hsub hn h
theorem qgN{s0:St}{H0:FH}{parts:List (Nat×AV)}{vals:List (Nat×Value)}(hparts:∀n,(lk parts n=none/\lk vals n=none)\/∃av v,lk parts n=some av/\lk vals n=some v/\qh P C w H0 Φ s0.obj av v)
  {e:Ty} (hn:e.noFn=true):∀(len:Nat) {s:St} {H:FH} {n:Nat} {s':St} {x:List e.den},qg P C s a w H Φ->H0.le H->(∀id o,s.obj id=some o->s0.obj id=some o)->qiu s parts e n len=some (s',x)->
  ∃(H':FH) (css:List (List Value)),H.le H'/\qg P C s' a w H' Φ/\(∀id o,s'.obj id=some o->s.obj id=some o)/\qe (qm P e w H') x css.flatten []/\css.length=len/\x.length=len/\
   ∀i,i<len->∃c,css[i]? = some c/\c.length=e.size/\(∀v∈c,v.oneCell'=true)/\match lk vals (n+i)with|some v=>v=jZ e c|none=>c=e.zeroCells
 |0,s,H,n,s',x,hs,hle,hsub,h=>by
  cases h
  exact⟨H,[],FH.le_refl _,hs,λ_ _ h=>h,⟨rfl,rfl⟩,rfl,rfl,λi hi=>by omega⟩
 |len+1,s,H,n,s',x,hs,hle,hsub,h=>by
  unfold qiu at h
  split at h
  ·rename_i s1 x1 h1
   split at h
   ·rename_i s2 x2 h2
    cases h
    obtain⟨H1,c,k1,k2,k3,k4,_,k5⟩:=qd9 hparts hs hle hsub hn h1
    obtain⟨H2,css,m1,m2,m3,m4,m5,m6,m7⟩:=qgN hparts hn len k2 (FH.le_trans hle k1) (λid o ho=>hsub id o (k3 id o ho)) h2
    refine⟨H2,c::css,FH.le_trans k1 m1,m2,λid o ho=>k3 id o (m3 id o ho),⟨c,css.flatten,[],[],by simp,rfl,qm.mono _ m1 (by simp) k4,m4⟩,by simp[m5],by simp[m6],?_⟩
    intro i hi
    match i with
    |0=>exact⟨c,rfl,qm.length _ k4,qm.one _ k4,k5⟩
    |i+1=>
     obtain⟨c',q1,q2,q3,q4⟩:=m7 i (by omega)
     exact⟨c',by simpa using q1,q2,q3,by rw[show n+(i+1)=n+1+i by omega];exact q4⟩
   ·cases h
  ·cases h
theorem qe4(hs:qg P C s a w H Φ):∀(parts:List (Nat×Operand)) {l:List AV},qbV s (λ_=>none) (parts.map (·.2)) 0=some l->
  ∀n,(lk ((parts.map (·.1)).zip l) n=none/\lk (parts.map λx=>(x.1,a.eval x.2)) n=none)\/∃av v,lk ((parts.map (·.1)).zip l) n=some av/\lk (parts.map λx=>(x.1,a.eval x.2)) n=some v/\qh P C w H Φ s.obj av v:=by
 intro parts l h
 have hr:=jV hs (λ_=>qv) h
 clear h
 induction parts generalizing l with
 |nil=>intro n;exact .inl ⟨rfl,rfl⟩
 |cons x parts ih=>
  match l,hr with
  |[],hr=>exact hr.elim
  |av::l,hr=>
   intro n
   simp only[List.map_cons,List.zip_cons_cons,jQ]
   cases hb:Nat.beq x.1 n with
   |true=>exact .inr ⟨av,_,rfl,rfl,hr.1⟩
   |false=>exact ih hr.2 n
theorem qdD{T:TypeId}{τ:Ty}(hty:qN P T (.str τ)){parts:Array (Nat×Operand)}(hap:apart (parts.toList.map (·.1)) []=true)(hin:(parts.toList.map (·.1)).all (qaD τ)=true){css:List (List Value)}(m5:css.length=(fts τ).length)
  (m6:∀i σ,(fts τ)[i]? = some σ->∃c,css[i]? = some c/\c.length=σ.size/\(∀v∈c,v.oneCell'=true)/\match lk (parts.toList.map λx=>(x.1,a.eval x.2)) (0+i)with|some v=>v=jZ σ c|none=>c=σ.zeroCells):
  ∃cells',(∀w:World,(Instr.build T (parts.map λx=>(x.1,a.eval x.2))).run P w = .ok (.agg cells') w)/\cells'.toList=css.flatten:=by
 obtain⟨fs,hu,hfs⟩:=hty.str
 obtain⟨k1,k2⟩:=qiT τ hfs
 obtain⟨it,hit,hsz,hpos,_,hz⟩:=hty.info
 have hzc:(jZ (.str τ) τ.zeroCells).cells.toList=τ.zeroCells:=rfl
 obtain⟨cells',g1,g2⟩:=qfP (((List.range (fts τ).length).map λi=>(0+(((fts τ).take i).map Ty.size).sum,(((fts τ)[i]?).map Ty.size).getD 0)).toArray[·]?) (parts.toList.map λx=>(x.1,a.eval x.2)) ((fts τ).map Ty.zeroCells) css
  (jZ (.str τ) τ.zeroCells).cells (by
   intro i z hi
   rw[List.getElem?_map]at hi
   obtain⟨σ,h1,rfl⟩:=Option.map_eq_some_iff.1 hi
   have hlt:=(List.getElem?_eq_some_iff.1 h1).1
   simp only[List.getElem?_toArray,List.getElem?_map,List.getElem?_range hlt,Option.map_some,Nat.zero_add,h1,Option.getD_some,Option.some.injEq,Prod.mk.injEq]
   refine⟨?_,(Ty.zero_length σ).symm⟩
   rw[<-List.map_take,List.map_map]
   congr 1
   apply List.map_congr_left
   intro t _
   exact(Ty.zero_length t).symm)
  (by rw[hzc];exact qiS τ) (by
   rw[List.map_map]
   exact(qcg hap).1)
  (by
   intro x hx
   obtain⟨y,hy,rfl⟩:=List.mem_map.1 hx
   rw[List.length_map]
   exact qny τ (List.all_eq_true.1 hin _ (List.mem_map.2 ⟨y,hy,rfl⟩)))
  (by rw[m5,List.length_map]) (by
   intro i c hc
   have hlt:i<(fts τ).length:=by rw[<-m5];exact(List.getElem?_eq_some_iff.1 hc).1
   obtain⟨c',q1,q2,q3,q4⟩:=m6 i (fts τ)[i] (List.getElem?_eq_getElem hlt)
   rw[hc]at q1
   cases q1
   rw[List.getElem?_map,List.getElem?_eq_getElem hlt]
   refine⟨λz hz=>?_,?_⟩
   ·simp only[Option.map_some,Option.some.injEq]at hz
    rw[<-hz,Ty.zero_length,q2]
   ·rw[Nat.zero_add]at q4
    split
    ·rename_i v hv
     rw[hv]at q4
     simp only at q4
     obtain⟨t,ht⟩:=k1 (fts τ)[i] (List.getElem_mem hlt)
     rw[q4]
     exact qbc (by rintro x y e;rw[e]at ht;exact ht.not_pair) q2 q3
    ·rename_i hv
     rw[hv]at q4
     simp only at q4
     rw[q4];rfl)
 refine⟨cells',λw=>?_,g2⟩
 refine run_build w T _ cells' ?_
 unfold Program.built
 rw[hit,hu]
 simp only[hz,k2,Array.toList_map]
 exact g1
theorem op_build(hcfg:qu P cfg)(hC:qz C cfg){T:TypeId}{parts:Array (Nat×Operand)}(hs:qg P C s a w H Φ)(hd:qF cfg.nt dst=true)(h:qG cfg ⟨dst,.build T parts,ty,pos,after,guard⟩ s k=some r):
  ∃s',k s'=some r/\qah P C ⟨dst,.build T parts,ty,pos,after,guard⟩ a w s':=by
 simp only[qG]at h
 split at h
 ·rename_i τ σ l hsite hT hl
  split at h
  case h_2=>cases h
  rename_i d
  cases hq0:τ.zeroX&&(!τ.noFn&&(parts.toList.isEmpty&&decide ((Ty.str τ).fz=σ)))with
  |true=>
   rw[hq0,cond_true]at h
   simp only[Bool.and_eq_true,Bool.not_eq_true',List.isEmpty_iff]at hq0
   obtain⟨hz,_,hpe,hfz⟩:=hq0
   have hfz:=of_decide_eq_true hfz
   subst hfz
   have hty:=qN.unfz (τ:=.str τ) (hcfg.ty T _ hT).1
   obtain⟨cells',hrun,hcells⟩:=qdD (P:=P) (a:=a) (parts:=parts) hty (by rw[hpe];rfl) (by rw[hpe];rfl) (css:=(fts τ).map Ty.zeroCells) (by simp) (λi σ hσ=>⟨σ.zeroCells,by rw[List.getElem?_map,hσ];rfl,Ty.zero_length σ,Ty.zero_one σ,by rw[hpe];rfl⟩)
   have hd':d<C.nt:=by rw[hC.nt];exact Eq.mp Nat.blt_eq hd
   have hd2:d<4000000:=Nat.lt_of_lt_of_le hd' (by rw[hC.nt];exact Nat.le_trans hcfg.small (by decide))
   have hno:=hs.newObj (jM.refl _ _) (hC.pin d (Nat.lt_trans hd2 (by decide))) (qbb hd2) (row:=true) (τ:=.str τ) (x:=τ.zero) (φ:=⟨0,.agg cells',[]⟩)
    ⟨Ty.zeroX_noFx τ hz,List.nodup_nil,rfl,((fts τ).map Ty.zeroCells).flatten,by show _=Value.agg _;rw[<-hcells],by rw[<-qiS];exact qm.zeroX τ hz⟩ (λb hb=>by cases hb)
   refine⟨_,h,.agg cells',λw' _=>?_,⟨H,_,hno.set hd' (v:=.agg cells') ⟨⟨true,.str τ,τ.zero⟩,⟨.str τ,τ.zero⟩,?_,qH _ _,?_⟩⟩⟩
   ·simp[execOp,hrun]
   ·rw[St.newObj,St.obj_setObj,if_pos rfl]
   ·simp only[List.isEmpty_nil,Bool.and_self,qr]
  |false=>
  rw[hq0,cond_false]at h
  cases hq:τ.noFn&&decide ((Ty.str τ).fz=σ)&&apart (parts.toList.map (·.1)) []&&(parts.toList.map (·.1)).all (qaD τ)with
  |false=>rw[hq]at h;cases h
  |true=>
  rw[hq,cond_true]at h
  simp only[Bool.and_eq_true]at hq
  obtain⟨⟨⟨hn,hfz⟩,hap⟩,hin⟩:=hq
  have hfz:=of_decide_eq_true hfz
  subst hfz
  split at h
  case h_2=>cases h
  rename_i s1 x1 hm
  have hty:=qN.unfz (τ:=.str τ) (hcfg.ty T _ hT).1
  obtain⟨H1,css,fp,m1,m2,m3,m4,m5,m7,m8,m9,m6⟩:=qlv (qe4 hs parts.toList hl) τ hs (FH.le_refl _) (λ_ _ h=>h) hn hm
  obtain⟨cells',hrun,hcells⟩:=qdD hty hap hin m5 m6
  have hd':d<C.nt:=by rw[hC.nt];exact Eq.mp Nat.blt_eq hd
  have hd2:d<4000000:=Nat.lt_of_lt_of_le hd' (by rw[hC.nt];exact Nat.le_trans hcfg.small (by decide))
  have hno:=m2.newObj (jM.refl _ _) (hC.pin d (Nat.lt_trans hd2 (by decide))) (qbb hd2) (row:=true) (τ:=.str τ) (x:=x1) (φ:=⟨0,.agg cells',fp⟩)
   ⟨Ty.noFn_noFx τ hn,m7,rfl,css.flatten,by show _=Value.agg _;rw[<-hcells],m4⟩ (λb hb=>⟨(m8 b hb).1.fz,(m8 b hb).1.may,(m8 b hb).1.lt,λj o' _ hj=>(m8 b hb).1.obj j o' hj⟩)
  refine⟨_,h,.agg cells',λw' _=>?_,⟨H1,_,hno.set hd' (v:=.agg cells') ⟨⟨true,.str τ,x1⟩,⟨.str τ,x1⟩,?_,qH _ _,?_⟩⟩⟩
  ·simp[execOp,hrun]
  ·rw[St.newObj,St.obj_setObj,if_pos rfl]
  ·simp only[List.isEmpty_nil,Bool.and_self,qr]
 ·rename_i τ l hsite hT hl
  cases hq:τ.noFn&&apart (parts.toList.map (·.1)) []&&(parts.toList.map (·.1)).all (qaD τ)with
  |false=>rw[hq]at h;cases h
  |true=>
  rw[hq,cond_true]at h
  simp only[Bool.and_eq_true]at hq
  obtain⟨⟨hn,hap⟩,hin⟩:=hq
  split at h
  case h_2=>cases h
  rename_i s1 x1 hm
  obtain⟨hty,hfz⟩:=hcfg.ty T _ hT
  obtain⟨H1,css,m1,m2,m3,m4,m5,m6⟩:=qlw (qe4 hs parts.toList hl) τ hs (FH.le_refl _) (λ_ _ h=>h) hn hm
  obtain⟨cells',hrun,hcells⟩:=qdD hty hap hin m5 m6
  refine⟨_,h,(.agg cells'),λw' _=>?_,⟨H1,Φ,m2.setDst (by rw[hC.nt];exact hd) ⟨hfz,css.flatten,?_,m4⟩⟩⟩
  ·simp[execOp,hrun]
  ·show _=Value.agg _
   rw[<-hcells]
 ·rename_i len e l hsite hT hl
  cases hq:e.noFn&&apart (parts.toList.map (·.1)) []&&(parts.toList.map (·.1)).all (λi=>Nat.blt i len)with
  |false=>rw[hq]at h;cases h
  |true=>
  rw[hq,cond_true]at h
  simp only[Bool.and_eq_true]at hq
  obtain⟨⟨hn,hap⟩,hin⟩:=hq
  split at h
  case h_2=>cases h
  rename_i s1 x1 hm
  obtain⟨hty,hfz⟩:=hcfg.ty T _ hT
  obtain⟨u,hu,he⟩:=hty.arr
  obtain⟨it,hit,_,_,_,hzt⟩:=hty.info
  obtain⟨ie,hie,hsz,_,_,_⟩:=he.info
  have hnp:∀x y,e≠.pair x y:=by rintro x y rfl;exact he.not_pair
  obtain⟨H1,css,m1,m2,m3,m4,m5,m6,m7⟩:=qgN (qe4 hs parts.toList hl) hn len hs (FH.le_refl _) (λ_ _ h=>h) hm
  have hzc:(jZ (.arr len e) (Ty.arr len e).zeroCells).cells.toList=(List.replicate len e.zeroCells).flatten:=rfl
  obtain⟨cells',g1,g2⟩:=qfP (λi=>some (i*e.size,e.size)) (parts.toList.map λx=>(x.1,a.eval x.2)) (List.replicate len e.zeroCells) css
   (jZ (.arr len e) (Ty.arr len e).zeroCells).cells (by
    intro i z hi
    have hlt:=(List.getElem?_eq_some_iff.1 hi).1
    rw[List.length_replicate]at hlt
    obtain rfl:e.zeroCells=z:=by simpa[List.getElem?_replicate,hlt]using hi
    have hmin:min i len=i:=by omega
    simp only[List.take_replicate,hmin,List.map_replicate,List.sum_replicate_nat,Ty.zero_length])
   hzc (by
    rw[List.map_map]
    exact(qcg hap).1)
   (by
    intro x hx
    obtain⟨y,hy,rfl⟩:=List.mem_map.1 hx
    rw[List.length_replicate]
    exact Eq.mp Nat.blt_eq (List.all_eq_true.1 hin _ (List.mem_map.2 ⟨y,hy,rfl⟩)))
   (by rw[m5,List.length_replicate]) (by
    intro i c hc
    have hlt:i<len:=by rw[<-m5];exact(List.getElem?_eq_some_iff.1 hc).1
    obtain⟨c',q1,q2,q3,q4⟩:=m7 i hlt
    rw[hc]at q1
    cases q1
    have hrep:(List.replicate len e.zeroCells)[i]? = some e.zeroCells:=by simp[hlt]
    rw[hrep]
    refine⟨λz hz=>?_,?_⟩
    ·simp only[Option.some.injEq]at hz
     rw[<-hz,Ty.zero_length,q2]
    ·rw[Nat.zero_add]at q4
     split
     ·rename_i v hv
      rw[hv]at q4
      simp only at q4
      rw[q4]
      exact qbc hnp q2 q3
     ·rename_i hv
      rw[hv]at q4
      simp only at q4
      rw[q4])
  have hrun:∀w:World,(Instr.build T (parts.map λx=>(x.1,a.eval x.2))).run P w = .ok (.agg cells') w:=by
   intro w
   refine run_build w T _ cells' ?_
   unfold Program.built
   rw[hit,hu]
   simp only[hzt,hie,hsz,Array.toList_map]
   exact g1
  refine⟨_,h,(.agg cells'),λw' _=>?_,⟨H1,Φ,m2.setDst (by rw[hC.nt];exact hd) ⟨hfz,css.flatten,?_,m6,?_⟩⟩⟩
  ·simp[execOp,hrun]
  ·show _=Value.agg _
   rw[<-g2]
  ·exact m4
 ·cases h
theorem qmD(hcfg:qu P cfg)(hC:qz C cfg){T:TypeId}{len tid:Nat}{t:Ty}{parts:Array (Nat×Operand)}(hs:qg P C s a w H Φ)(hd:qF cfg.nt dst=true)(h:qi7 s dst (lk cfg.ty T) tid t len parts.toList k=some r):
  ∃s',k s'=some r/\qaG P C ⟨dst,.buildSlice T len parts,ty,pos,after,guard⟩ a w s':=by
 unfold qi7 at h
 cases h
theorem litTy_ok(hcfg:qu P cfg){T:TypeId}{own:Bool}{tid:TypeId}{e:Ty}(h:litTy cfg T=some (.list own tid e)):P.underlying T=some (.slice tid)/\qN P tid e/\e.isFz=true:=by
 unfold litTy at h
 split at h
 ·rename_i t _ hT
  split at h
  case h_2=>cases h
  rename_i e' he
  cases h
  exact⟨(hcfg.ty T _ hT).1.xrow (by decide),hcfg.ty tid _ he⟩
 ·obtain⟨h1,h2⟩:=hcfg.ty T _ h
  simp only[Ty.isFz,Bool.and_eq_true]at h2
  exact⟨h1.list.1,h1.list.2,h2.2⟩
theorem qjk(hcfg:qu P cfg)(hC:qz C cfg){T:TypeId}{len:Nat}{parts:Array (Nat×Operand)}(hs:qg P C s a w H Φ)(hd:qF cfg.nt dst=true)(h:qG cfg ⟨dst,.buildSlice T len parts,ty,pos,after,guard⟩ s k=some r):
  ∃s',k s'=some r/\qaG P C ⟨dst,.buildSlice T len parts,ty,pos,after,guard⟩ a w s':=by
 simp only[qG]at h
 split at h
 ·exact qmD hcfg hC hs hd h
 rename_i hsite
 clear hsite
 split at h
 case h_2=>cases h
 rename_i d own tid e l hT hl
 cases hq:e.noFn&&Nat.ble (len*e.size) 16777216&&apart (parts.toList.map (·.1)) []&&(parts.toList.map (·.1)).all (λi=>Nat.blt i len)with
 |false=>rw[hq]at h;cases h
 |true=>
 rw[hq,cond_true]at h
 simp only[Bool.and_eq_true]at hq
 obtain⟨⟨⟨hn,hsm⟩,hap⟩,hin⟩:=hq
 have hsm:=Nat.le_of_ble_eq_true hsm
 split at h
 case h_2=>cases h
 rename_i s1 x1 hm
 obtain⟨hu,he,hefz⟩:=litTy_ok hcfg hT
 obtain⟨ie,hie,hsz,hpos,hby,hz⟩:=he.info
 have hnp:∀x y,e≠.pair x y:=by rintro x y rfl;exact he.not_pair
 obtain⟨H1,css,m1,m2,m3,m4,m5,m6,m7⟩:=qgN (qe4 hs parts.toList hl) hn len hs (FH.le_refl _) (λ_ _ h=>h) hm
 have hzc:(jZ e e.zeroCells).cells.toList=e.zeroCells:=qbc hnp (Ty.zero_length e) (Ty.zero_one e)
 have hzs:(jZ e e.zeroCells).cells.size=e.size:=by rw[<-Array.length_toList,hzc,Ty.zero_length]
 have hml:((Array.range (len*e.size)).map ((jZ e e.zeroCells).cells[· % (jZ e e.zeroCells).cells.size]!)).toList=(List.replicate len e.zeroCells).flatten:=by
  have:=qgP (jZ e e.zeroCells).cells (by omega) len
  rw[hzs,hzc]at this
  rw[<-this,hzs]
  simp[madeCells,hzs]
 obtain⟨cells',g1,g2⟩:=qfP (λi=>some (i*e.size,e.size)) (parts.toList.map λx=>(x.1,a.eval x.2)) (List.replicate len e.zeroCells) css
  ((Array.range (len*e.size)).map ((jZ e e.zeroCells).cells[· % (jZ e e.zeroCells).cells.size]!)) (by
   intro i z hi
   have hlt:=(List.getElem?_eq_some_iff.1 hi).1
   rw[List.length_replicate]at hlt
   obtain rfl:e.zeroCells=z:=by simpa[List.getElem?_replicate,hlt]using hi
   have hmin:min i len=i:=by omega
   simp only[List.take_replicate,hmin,List.map_replicate,List.sum_replicate_nat,Ty.zero_length])
  hml (by
   rw[List.map_map]
   exact(qcg hap).1)
  (by
   intro x hx
   obtain⟨y,hy,rfl⟩:=List.mem_map.1 hx
   rw[List.length_replicate]
   exact Eq.mp Nat.blt_eq (List.all_eq_true.1 hin _ (List.mem_map.2 ⟨y,hy,rfl⟩)))
  (by rw[m5,List.length_replicate]) (by
   intro i c hc
   have hlt:i<len:=by rw[<-m5];exact(List.getElem?_eq_some_iff.1 hc).1
   obtain⟨c',q1,q2,q3,q4⟩:=m7 i hlt
   rw[hc]at q1
   cases q1
   have hrep:(List.replicate len e.zeroCells)[i]? = some e.zeroCells:=by simp[hlt]
   rw[hrep]
   refine⟨λz hz=>?_,?_⟩
   ·simp only[Option.some.injEq]at hz
    rw[<-hz,Ty.zero_length,q2]
   ·rw[Nat.zero_add]at q4
    split
    ·rename_i v hv
     rw[hv]at q4
     simp only at q4
     rw[q4]
     exact qbc hnp q2 q3
    ·rename_i hv
     rw[hv]at q4
     simp only at q4
     rw[q4])
 have hrun:(Instr.buildSlice T len (parts.map λx=>(x.1,a.eval x.2))).run P w = .ok (.slice (some ⟨w.heap.size,0,none⟩) len len) (w.alloc (.cells cells' tid)):=by
  by_cases hl0:len=0
  ·subst hl0
   have hp:parts = #[]:=by
    rw[<-Array.toArray_toList (xs:=parts)]
    match hpl:parts.toList,hin with
    |[],_=>rfl
    |x::r,hin=>simp[Nat.blt]at hin
   subst hp
   have:cells' = #[]:=by
    rw[<-Array.toArray_toList (xs:=cells'),g2,List.eq_nil_of_length_eq_zero m5];rfl
   subst this
   have e0:∀f:Nat->Value,Array.map f (Array.range 0) = #[]:=λf=>Array.eq_empty_of_size_eq_zero (by simp)
   simp[Instr.buildSlice,run_underlying hu,sizeOf,typeInfo,hie,Instr.fill,newRow,e0]
  ·refine run_buildSlice w T tid len _ cells' ie _ hu hie hz (by rw[hsz];omega) ?_ ?_
   ·rw[hsz]
    have:=Nat.mul_pos (Nat.pos_of_ne_zero hl0) hpos
    omega
   ·rw[hsz,Array.toList_map];exact g1
 have hsize:cells'.size=len*e.size:=by
  rw[<-Array.length_toList,g2,qe.length (λ_ _ _ hh=>qm.length e hh) m4,m6]
 have hm2:=qb4 w (.cells cells' tid)
 obtain⟨Φ',h4⟩:=m2.newRow (w':=w.alloc (.cells cells' tid)) (tid:=tid) (e:=e) (l:=x1) (v:=.slice (some ⟨w.heap.size,0,none⟩) len len) (xs:=css.flatten) hcfg hC (Eq.mp Nat.blt_eq hd) (Nat.lt_trans (hcfg.low (Eq.mp Nat.blt_eq hd)) (by decide)) (qbb (hcfg.low (Eq.mp Nat.blt_eq hd))) hn hm2
  ⟨by rw[qe.length (λ_ _ _ hh=>qm.length e hh) m4],.inr ⟨w.heap.size,len,cells',by rw[m6],Nat.zero_le _,heap_alloc_new w _,by omega,by
   have:=Nat.mul_le_mul_left len (show 1<=e.size from hpos)
   unfold maxLen;omega,hsize,by rw[m6,g2,List.take_of_length_le];rw[qe.length (λ_ _ _ hh=>qm.length e hh) m4,m6];exact Nat.le_refl _⟩⟩
  (qe.mono (λ_ _ _ hh=>by
   have hf0:=qm.fz_fp e hefz hh
   subst hf0
   exact qm.mono e (FH.le_refl _) (by simp) hh) m4)
  (by intro b hb;simp only[Value.ownBlock,Option.some.injEq]at hb;subst hb;exact⟨Nat.le_refl _,by simp⟩)
 refine⟨_,h,qad (w':=w.alloc (.cells cells' tid)) (v:=.slice (some ⟨w.heap.size,0,none⟩) len len) ?_ ⟨H1,Φ',h4⟩⟩
 simp[execOp,hrun]
end
end Go.Vi
namespace Go.Vi
section
variable {P:Program} {C:Ctx} {cfg:jG} {R:Type} {r:R} {s:St} {a:Act} {w:World} {H:FH} {Φ:Nat->qB} {dst:Option Nat} {ty:TypeId} {pos:String} {after:Array Edge} {guard:Option (Nat×Bool)} {k:St->Option R}
def Fzn(w:World)(Hf:FH)(Φ:Nat->qB)(os:Nat->Option Obj)(ids:List Nat):Prop:=
 ∀id∈ids,∀o,os id=some o->∀b∈(Φ id).fp,∀c:FB,c.At w b->Hf b=some c
def RepX(P:Program)(C:Ctx)(w:World)(H:FH)(Φ:Nat->qB)(os:Nat->Option Obj)(w':World)(H':FH)(av:AV)(v:Value):Prop:=
 qh P C w H Φ os av v\/∃τ x cs,av = .val τ x/\τ.isFz=true/\v=jZ τ cs/\qm P τ w' H' x cs []
def RepV(P:Program)(w:World)(H:FH)(τ:Ty)(x:τ.den)(v:Value):Prop:=∃cs,v=jZ τ cs/\qm P τ w H x cs []
def qg8(P:Program)(w:World)(H:FH)(τ:Ty)(x:τ.den)(v:Value):Prop:=∃b o blk,v = .pointer (some ⟨b,o,none⟩)/\H b=some (.cells blk)/\qm P τ w H x (seg blk o τ.size) []
theorem RepV.mono{w w':World}{H H':FH}(hH:H.le H'){τ:Ty}{x:τ.den}{v:Value}(h:RepV P w H τ x v):RepV P w' H' τ x v:=by
 obtain⟨cs,h1,h2⟩:=h
 exact⟨cs,h1,qm.mono _ hH (by simp) h2⟩
theorem qg8.mono{w w':World}{H H':FH}(hH:H.le H'){τ:Ty}{x:τ.den}{v:Value}(h:qg8 P w H τ x v):qg8 P w' H' τ x v:=by
 obtain⟨b,o,blk,h1,h2,h3⟩:=h
 exact⟨b,o,blk,h1,hH _ _ h2,qm.mono _ hH (by simp) h3⟩
theorem qg8.ptr{w:World}{H:FH}{τ:Ty}{x:τ.den}{v:Value}(h:qg8 P w H τ x v):RepV P w H (.ptr τ) (some x) v:=by
 obtain⟨b,o,blk,h1,h2,h3⟩:=h
 exact⟨[v],rfl,rfl,b,o,blk,by rw[h1],h2,h3⟩
theorem qda(hs:qg P C s a w H Φ){Hf:FH}(hle:H.le Hf){w':World}{H':FH}(hle':Hf.le H'){av:AV}{v:Value}(hf:Fzn w Hf Φ s.obj av.touches)(hr:RepX P C w H Φ s.obj w' H' av v){τ:Ty}{kk:τ.den->Option R}(h:qb8 s av τ kk=some r):
  τ.isFz=true/\∃x,kk x=some r/\RepV P w' H' τ x v:=by
 rcases hr with hr|⟨σ,x,cs,rfl,hfz,hv,hrep⟩
 ·unfold qb8 at h
  split at h
  ·rw[qi]at h
   replace h:=Option.bind_eq_some_iff.1 h
   obtain⟨y,hy,h⟩:=h
   obtain⟨e,hy⟩:=qf hy
   subst e
   subst hy
   obtain⟨hfz,cs,hv,hrep⟩:=hr
   exact⟨hfz,_,h,cs,hv,qm.mono _ (FH.le_trans hle hle') (by simp) hrep⟩
  ·rename_i id p
   split at h
   case h_2=>cases h
   rename_i o ho
   rw[jJ]at h
   replace h:=Option.bind_eq_some_iff.1 h
   obtain⟨y,hy,h⟩:=h
   rw[qi]at h
   replace h:=Option.bind_eq_some_iff.1 h
   obtain⟨z,hz,h⟩:=h
   obtain⟨e,hz⟩:=qf hz
   subst e
   subst hz
   have hok:=(hs.os id o ho).1
   obtain⟨cs,fp,hv,hrep,hsub,_⟩:=qaX hr ho hok hy
   refine⟨Ty.isFz_fz _,_,h,cs,by rw[qhW];exact hv,?_⟩
   exact qm.freezeX y.1 (qbv _ hok.1 hy) w' (FH.le_trans hle hle') (λb hb c hc=>hle' _ _ (hf id (by simp[AV.touches]) o ho b (hsub b hb) c hc)) hrep _
  ·rename_i σ x
   rw[qi]at h
   replace h:=Option.bind_eq_some_iff.1 h
   obtain⟨y,hy,h⟩:=h
   obtain⟨e,hy⟩:=qf hy
   subst e
   subst hy
   obtain⟨hfz,hr⟩:=hr
   exact⟨by simpa[Ty.isFz]using hfz,_,h,qg8.ptr (qg8.mono (FH.le_trans hle hle') hr)⟩
  ·rename_i id p
   split at h
   case h_2=>cases h
   rename_i o ho
   cases hrow:o.row with
   |true=>rw[hrow]at h;cases h
   |false=>
   rw[hrow,cond_false]at h
   split at h
   case h_2=>cases h
   rename_i y hy
   rw[qi]at h
   replace h:=Option.bind_eq_some_iff.1 h
   obtain⟨z,hz,h⟩:=h
   obtain⟨e,hz⟩:=qf hz
   subst e
   subst hz
   have:=qh.frozen (H':=Hf) (os':=s.obj) ho hle (hf id (by simp[AV.touches]) o ho) (λj o hj=>(hs.os j o hj).1) (λ_ _ _ h=>h) _ _ hr
   simp only[AV.frozen,Nat.beq_refl,cond_true,hrow,cond_false,hy]at this
   obtain⟨hfz,this⟩:=this
   exact⟨by simpa[Ty.isFz]using hfz,_,h,qg8.ptr (qg8.mono hle' this)⟩
  ·cases h
 ·simp only[qb8,qi]at h
  replace h:=Option.bind_eq_some_iff.1 h
  obtain⟨y,hy,h⟩:=h
  obtain⟨e,hy⟩:=qf hy
  subst e
  subst hy
  exact⟨hfz,_,h,cs,hv,hrep⟩
theorem qhd(hs:qg P C s a w H Φ){Hf:FH}(hle:H.le Hf){w':World}{H':FH}(hle':Hf.le H'){av:AV}{v:Value}(hf:Fzn w Hf Φ s.obj av.touches)(hr:RepX P C w H Φ s.obj w' H' av v){τ:Ty}{kk:τ.den->Option R}(h:qhF s av τ kk=some r):
  τ.isFz=true/\∃x,kk x=some r/\qg8 P w' H' τ x v:=by
 unfold qhF at h
 split at h
 ·rw[qi]at h
  replace h:=Option.bind_eq_some_iff.1 h
  obtain⟨y,hy,h⟩:=h
  obtain⟨e,hy⟩:=qf hy
  subst e
  subst hy
  rcases hr with hr|⟨_,_,_,he,_⟩
  ·obtain⟨hfz,hr⟩:=hr
   exact⟨hfz,_,h,qg8.mono (FH.le_trans hle hle') hr⟩
  ·cases he
 ·rename_i id p
  split at h
  case h_2=>cases h
  rename_i o ho
  cases hrow:o.row with
  |true=>rw[hrow]at h;cases h
  |false=>
  rw[hrow,cond_false]at h
  split at h
  case h_2=>cases h
  rename_i y hy
  rw[qi]at h
  replace h:=Option.bind_eq_some_iff.1 h
  obtain⟨z,hz,h⟩:=h
  obtain⟨e,hz⟩:=qf hz
  subst e
  subst hz
  rcases hr with hr|⟨_,_,_,he,_⟩
  ·have:=qh.frozen (H':=Hf) (os':=s.obj) ho hle (hf id (by simp[AV.touches]) o ho) (λj o hj=>(hs.os j o hj).1) (λ_ _ _ h=>h) _ _ hr
   simp only[AV.frozen,Nat.beq_refl,cond_true,hrow,cond_false,hy]at this
   obtain⟨hfz,this⟩:=this
   exact⟨hfz,_,h,qg8.mono hle' this⟩
  ·cases he
 ·rename_i σ x
  rw[qi]at h
  replace h:=Option.bind_eq_some_iff.1 h
  obtain⟨x2,hx2,h⟩:=h
  subst hx2
  rw[qi]at h
  replace h:=Option.bind_eq_some_iff.1 h
  obtain⟨y,hy,h⟩:=h
  obtain⟨e,hy⟩:=qf hy
  subst e
  subst hy
  have hv:σ.isFz=true/\RepV P w' H' (.ptr σ) (some y) v:=by
   rcases hr with hr|⟨τ',x',cs,he,hfz,hv,hrep⟩
   ·obtain⟨hfz,cs,hv,hrep⟩:=hr
    exact⟨by simpa[Ty.isFz]using hfz,cs,hv,qm.mono _ (FH.le_trans hle hle') (by simp) hrep⟩
   ·cases he
    exact⟨by simpa[Ty.isFz]using hfz,cs,hv,hrep⟩
  obtain⟨hfz,cs,hv,_,b,o,blk,e1,e2,e3⟩:=hv
  exact⟨hfz,_,h,b,o,blk,by rw[hv,e1];rfl,e2,e3⟩
 ·cases h
def qw:qB:=⟨0,.nilFunc,[]⟩
theorem qf4(hs:qg P C s a w H Φ){Hf:FH}(hle:H.le Hf){w':World}{H':FH}(hle':Hf.le H'):
  ∀{ps:List jT} {l:List AV} {vs:List Value} {kk:PDens ps->Option R},ps.all jT.reads=true->(∀av∈l,Fzn w Hf Φ s.obj av.touches)->qaa (RepX P C w H Φ s.obj w' H') l vs->qif s ps l kk=some r->
   ∃d,kk d=some r/\∃Φs,jP P w' H' ps d vs Φs/\qd Φs=[]
 |[],l,vs,kk,_,_,hrel,h=>by
  match l,vs,hrel with
  |[],[],_=>exact⟨(),h,[],⟨rfl,rfl⟩,rfl⟩
  |_::_,_,hrel=>cases h
 |.v τ::ps,l,vs,kk,hp,hf,hrel,h=>by
  match l,vs,hrel with
  |[],_,_=>cases h
  |av::l,v::vs,hrel=>
   simp only[qif]at h
   obtain⟨hfz,x,h,hv⟩:=qda hs hle hle' (hf av (by simp)) hrel.1 h
   obtain⟨d,h,Φs,h2,h3⟩:=qf4 hs hle hle' (by simpa[jT.reads]using hp) (λav ha=>hf av (by simp[ha])) hrel.2 h
   exact⟨(x,d),h,qw::Φs,⟨v,vs,qw,Φs,rfl,rfl,hfz,rfl,hv,h2⟩,by simpa[qd,qw]using h3⟩
  |_::_,[],hrel=>exact hrel.elim
 |.r τ::ps,l,vs,kk,hp,hf,hrel,h=>by
  match l,vs,hrel with
  |[],_,_=>cases h
  |av::l,v::vs,hrel=>
   simp only[qif]at h
   obtain⟨hfz,x,h,hv⟩:=qhd hs hle hle' (hf av (by simp)) hrel.1 h
   obtain⟨d,h,Φs,h2,h3⟩:=qf4 hs hle hle' (by simpa[jT.reads]using hp) (λav ha=>hf av (by simp[ha])) hrel.2 h
   exact⟨(x,d),h,qw::Φs,⟨v,vs,qw,Φs,rfl,rfl,hfz,rfl,hv,h2⟩,by simpa[qd,qw]using h3⟩
  |_::_,[],hrel=>exact hrel.elim
 |.c _::_,_,_,_,hp,_,_,_=>by simp[jT.reads]at hp
 |.m _::_,_,_,_,hp,_,_,_=>by simp[jT.reads]at hp
 |.mr _ _::_,_,_,_,hp,_,_,_=>by simp[jT.reads]at hp
 |.t _ _::_,_,_,_,hp,_,_,_=>by simp[jT.reads]at hp
 |.gm _::_,_,_,_,hp,_,_,_=>by simp[jT.reads]at hp
 |.cm _ _::_,_,_,_,hp,_,_,_=>by simp[jT.reads]at hp
theorem qaa.append{α β:Type}{Q:α->β->Prop}:∀{l1:List α} {r1:List β} {l2 r2},qaa Q l1 r1->qaa Q l2 r2->qaa Q (l1++l2) (r1++r2)
 |[],[],_,_,_,h=>h
 |_::_,_::_,_,_,h1,h2=>⟨h1.1,qaa.append h1.2 h2⟩
 |[],_::_,_,_,h1,_=>h1.elim
 |_::_,[],_,_,h1,_=>h1.elim
theorem qaa.imp{α β:Type}{Q S:α->β->Prop}(h:∀x y,Q x y->S x y):∀{l:List α} {r:List β},qaa Q l r->qaa S l r
 |[],[],_=>trivial
 |_::_,_::_,h1=>⟨h _ _ h1.1,qaa.imp h h1.2⟩
 |[],_::_,h1=>h1.elim
 |_::_,[],h1=>h1.elim
theorem qas{os:Nat->Option Obj}:∀{av:AV} {vs:List Value},av.isTup=true->qh P C w H Φ os av (.tuple vs.toArray)->qaa (qh P C w H Φ os) av.list vs
 |.nil,vs,_,h=>by
  have:vs=[]:=by simpa[qh]using h
  subst this;trivial
 |.cons a b,vs,ht,h=>by
  obtain⟨u,us,h1,h2,h3⟩:=h
  obtain rfl:vs=u::us:=by simpa using h1
  exact⟨h2,qas (by simpa[AV.isTup]using ht) h3⟩
 |.dead,_,ht,_=>by cases ht
 |.val _ _,_,ht,_=>by cases ht
 |.ref _ _,_,ht,_=>by cases ht
 |.ptr _ _,_,ht,_=>by cases ht
 |.view _ _,_,ht,_=>by cases ht
 |.upd _ _ _ _ _,_,ht,_=>by cases ht
 |.cut _ _ _ _,_,ht,_=>by cases ht
 |.fn _ _ _,_,ht,_=>by cases ht
 |.gh _ _,_,ht,_=>by cases ht
 |.cv _ _ _,_,ht,_=>by cases ht
theorem qb7{id:Nat}:∀{av:AV},av.isTup=true->∀x∈av.list,id∈x.touches->id∈av.touches
 |.nil,_,x,hx,_=>by simp[AV.list]at hx
 |.cons a b,ht,x,hx,hi=>by
  simp only[AV.touches,List.mem_append]
  rcases List.mem_cons.1 hx with rfl|hx
  ·exact .inl hi
  ·exact .inr (qb7 (by simpa[AV.isTup]using ht) x hx hi)
 |.dead,ht,_,_,_=>by cases ht
 |.val _ _,ht,_,_,_=>by cases ht
 |.ref _ _,ht,_,_,_=>by cases ht
 |.ptr _ _,ht,_,_,_=>by cases ht
 |.view _ _,ht,_,_,_=>by cases ht
 |.upd _ _ _ _ _,ht,_,_,_=>by cases ht
 |.cut _ _ _ _,ht,_,_,_=>by cases ht
 |.fn _ _ _,ht,_,_,_=>by cases ht
 |.gh _ _,ht,_,_,_=>by cases ht
 |.cv _ _ _,ht,_,_,_=>by cases ht
theorem qjG{r:Ty}{rs:List RTy}{d:RDens rs}{y:r.den}(h:qkt r rs d=some y){w:World}{H:FH}{us:List Value}{Ψs:List qB}(hr:qal P w H rs d us Ψs):∃cs,qap us=jZ r cs/\qm P r w H y cs []:=by
 unfold qkt at h
 split at h
 ·rename_i τ d'
  obtain⟨e,hy⟩:=qf h
  subst e
  subst hy
  obtain⟨v,vs',φ,Φs',rfl,_,_,_,⟨cs,hv,hrep⟩,rfl,_⟩:=hr
  exact⟨cs,hv,hrep⟩
 ·cases h
theorem qkw{w w':World}{Φs:List qB}(h:qd Φs=[])(hm:jM (· ∈qd Φs) w w'):jM qV w w':=hm.mono (λi hi=>by rw[h]at hi;cases hi)
theorem clos1_ok(hcfg:qu P cfg)(hs:qg P C s a w H Φ){Hf:FH}(hle:H.le Hf){f:Nat}{first caps:AV}{vs us:Array Value}(hr1:qh P C w H Φ s.obj first (.tuple vs))(hr2:qh P C w H Φ s.obj caps (.tuple us))
  (hf:Fzn w Hf Φ s.obj (first.touches++caps.touches)) {b r:Ty} (hb:b.isFz=true) {x:b.den} {y:r.den} (h:clos1 cfg s f first caps b r x=some y)
  {H':FH} {w':World} {cx:List Value} (hle':Hf.le H') (hok':HOk H' w') (hx:qm P b w' H' x cx []):
  Calls P f (vs ++ #[jZ b cx]++us) w' λe w''=>∃cy,e = .returned (jZ r cy)/\jM qV w' w''/\qm P r w'' H' y cy []:=by
 unfold clos1 at h
 split at h
 case h_2=>cases h
 rename_i p hp
 obtain⟨_,hsound⟩:=hcfg.prims f p hp
 cases hq:p.ps.all jT.reads&&r.isFlat&&first.isTup&&caps.isTup with
 |false=>rw[hq]at h;cases h
 |true=>
 rw[hq,cond_true]at h
 simp only[Bool.and_eq_true]at hq
 obtain⟨⟨⟨hps,hrf⟩,ht1⟩,ht2⟩:=hq
 have l1:=qas (vs:=vs.toList) ht1 (by simpa using hr1)
 have l2:=qas (vs:=us.toList) ht2 (by simpa using hr2)
 have hrel:qaa (RepX P C w H Φ s.obj w' H') (first.list ++ .val b x::caps.list) (vs.toList++jZ b cx::us.toList):=
  qaa.append (qaa.imp (λ_ _ h=>.inl h) l1) ⟨.inr ⟨b,x,cx,rfl,hb,rfl,hx⟩,qaa.imp (λ_ _ h=>.inl h) l2⟩
 obtain⟨d,h,Φs,hargs,hfps⟩:=qf4 hs hle hle' hps (by
  intro av hav id hid
  rcases List.mem_append.1 hav with h1|h1
  ·exact hf id (List.mem_append.2 (.inl (qb7 ht1 av h1 hid)))
  ·rcases List.mem_cons.1 h1 with rfl|h1
   ·cases hid
   ·exact hf id (List.mem_append.2 (.inr (qb7 ht2 av h1 hid)))) hrel h
 rw[qi]at h
 replace h:=Option.bind_eq_some_iff.1 h
 obtain⟨y',hy',h⟩:=h
 have hc:=hsound d y' hy' w' H' _ Φs hok' hargs (by rw[hfps];simp) (by rw[hfps];simp)
 have e:(vs.toList++jZ b cx::us.toList).toArray=vs ++ #[jZ b cx]++us:=by
  apply Array.toList_inj.1;simp
 rw[e]at hc
 refine hc.mono ?_
 rintro e w'' ⟨us',H2,Φs',Ψs,he,hm,hl2,_,_,hres,_⟩
 obtain⟨cy,h1,h2⟩:=qjG h hres
 exact⟨cy,by rw[he,h1],qkw hfps hm,qm.closed r (Ty.flat_closed r hrf) h2⟩
theorem clos2_ok(hcfg:qu P cfg)(hs:qg P C s a w H Φ){Hf:FH}(hle:H.le Hf){f:Nat}{first caps:AV}{vs us:Array Value}(hr1:qh P C w H Φ s.obj first (.tuple vs))(hr2:qh P C w H Φ s.obj caps (.tuple us))
  (hf:Fzn w Hf Φ s.obj (first.touches++caps.touches)) {b c r:Ty} (hb:b.isFz=true) (hc0:c.isFz=true) {x:b.den} {z:c.den} {y:r.den} (h:clos2 cfg s f first caps b c r x z=some y)
  {H':FH} {w':World} {cx cz:List Value} (hle':Hf.le H') (hok':HOk H' w') (hx:qm P b w' H' x cx []) (hz:qm P c w' H' z cz []):
  Calls P f (vs ++ #[jZ b cx,jZ c cz]++us) w' λe w''=>∃cy,e = .returned (jZ r cy)/\jM qV w' w''/\qm P r w'' H' y cy []:=by
 unfold clos2 at h
 split at h
 case h_2=>cases h
 rename_i p hp
 obtain⟨_,hsound⟩:=hcfg.prims f p hp
 cases hq:p.ps.all jT.reads&&r.isFlat&&first.isTup&&caps.isTup with
 |false=>rw[hq]at h;cases h
 |true=>
 rw[hq,cond_true]at h
 simp only[Bool.and_eq_true]at hq
 obtain⟨⟨⟨hps,hrf⟩,ht1⟩,ht2⟩:=hq
 have l1:=qas (vs:=vs.toList) ht1 (by simpa using hr1)
 have l2:=qas (vs:=us.toList) ht2 (by simpa using hr2)
 have hrel:qaa (RepX P C w H Φ s.obj w' H') (first.list ++ .val b x :: .val c z::caps.list) (vs.toList++jZ b cx::jZ c cz::us.toList):=
  qaa.append (qaa.imp (λ_ _ h=>.inl h) l1) ⟨.inr ⟨b,x,cx,rfl,hb,rfl,hx⟩,.inr ⟨c,z,cz,rfl,hc0,rfl,hz⟩,qaa.imp (λ_ _ h=>.inl h) l2⟩
 obtain⟨d,h,Φs,hargs,hfps⟩:=qf4 hs hle hle' hps (by
  intro av hav id hid
  rcases List.mem_append.1 hav with h1|h1
  ·exact hf id (List.mem_append.2 (.inl (qb7 ht1 av h1 hid)))
  ·rcases List.mem_cons.1 h1 with rfl|h1
   ·cases hid
   rcases List.mem_cons.1 h1 with rfl|h1
   ·cases hid
   ·exact hf id (List.mem_append.2 (.inr (qb7 ht2 av h1 hid)))) hrel h
 rw[qi]at h
 replace h:=Option.bind_eq_some_iff.1 h
 obtain⟨y',hy',h⟩:=h
 have hc:=hsound d y' hy' w' H' _ Φs hok' hargs (by rw[hfps];simp) (by rw[hfps];simp)
 have e:(vs.toList++jZ b cx::jZ c cz::us.toList).toArray=vs ++ #[jZ b cx,jZ c cz]++us:=by
  apply Array.toList_inj.1;simp
 rw[e]at hc
 refine hc.mono ?_
 rintro e w'' ⟨us',H2,Φs',Ψs,he,hm,hl2,_,_,hres,_⟩
 obtain⟨cy,h1,h2⟩:=qjG h hres
 exact⟨cy,by rw[he,h1],qkw hfps hm,qm.closed r (Ty.flat_closed r hrf) h2⟩
theorem snapF_ok(hcfg:qu P cfg)(hs:qg P C s a w H Φ){Hf:FH}(hle:H.le Hf){av:AV}{v:Value}(hf:Fzn w Hf Φ s.obj av.touches)(hr:qh P C w H Φ s.obj av v){τ:Ty}{kk:τ.den->Option R}(h:snapF cfg s av τ kk=some r):
  τ.isFz=true/\∃x,kk x=some r/\RepV P w Hf τ x v:=by
 unfold snapF at h
 split at h
 ·rename_i f first caps
  obtain⟨vs,us,hv,hr1,hr2⟩:=hr
  split at h
  ·rename_i b r2 kk
   cases hq:(lk cfg.prims f).isSome&&b.isFz&&r2.isFz with
   |false=>rw[hq]at h;cases h
   |true=>
   rw[hq,cond_true]at h
   simp only[Bool.and_eq_true]at hq
   obtain⟨⟨hq,hb⟩,hr3⟩:=hq
   obtain⟨p,hp⟩:=Option.isSome_iff_exists.1 hq
   obtain⟨hcal,_⟩:=hcfg.prims f p hp
   refine⟨by simp[Ty.isFz,hb,hr3],_,h,[v],rfl,rfl,f,vs,us,by rw[hv],hcal,?_⟩
   intro x y hxy H' w' cx hle' hok' hx
   exact clos1_ok hcfg hs hle hr1 hr2 hf hb hxy hle' hok' hx
  ·rename_i b c r2 kk
   cases hq:(lk cfg.prims f).isSome&&b.isFz&&c.isFz&&r2.isFz with
   |false=>rw[hq]at h;cases h
   |true=>
   rw[hq,cond_true]at h
   simp only[Bool.and_eq_true]at hq
   obtain⟨⟨⟨hq,hb⟩,hc⟩,hr3⟩:=hq
   obtain⟨p,hp⟩:=Option.isSome_iff_exists.1 hq
   obtain⟨hcal,_⟩:=hcfg.prims f p hp
   refine⟨by simp[Ty.isFz,hb,hc,hr3],_,h,[v],rfl,rfl,f,vs,us,by rw[hv],hcal,?_⟩
   intro x z y hxy H' w' cx cz hle' hok' hx hz
   exact clos2_ok hcfg hs hle hr1 hr2 hf hb hc hxy hle' hok' hx hz
  ·cases h
 ·exact qda hs hle (FH.le_refl _) hf (.inl hr) h
def qd5(os:Nat->Option Obj)(Φ:Nat->qB):List jT->List AV->List qB->Prop
 |[],l,Φs=>l=[]/\Φs=[]
 |.v _::ps,l,Φs=>∃av l' φ Φs',l=av::l'/\Φs=φ::Φs'/\φ.fp=[]/\qd5 os Φ ps l' Φs'
 |.r _::ps,l,Φs=>∃av l' φ Φs',l=av::l'/\Φs=φ::Φs'/\φ.fp=[]/\qd5 os Φ ps l' Φs'
 |.c _::ps,l,Φs=>∃av l' φ Φs',l=av::l'/\Φs=φ::Φs'/\φ.fp=[]/\qd5 os Φ ps l' Φs'
 |.m τ::ps,l,Φs=>∃id l' Φs' x,l = .ptr id []::l'/\Φs=Φ id::Φs'/\os id=some ⟨false,τ,x⟩/\qd5 os Φ ps l' Φs'
 |.gm τ::ps,l,Φs=>∃id l' Φs' x,l = .ptr id []::l'/\Φs=Φ id::Φs'/\os id=some ⟨false,τ,x⟩/\qd5 os Φ ps l' Φs'
 |.mr tid e::ps,l,Φs=>∃id l' Φs' x,l = .view id []::l'/\Φs=Φ id::Φs'/\os id=some ⟨true,.list true tid e,x⟩/\qd5 os Φ ps l' Φs'
 |.t tid e::ps,l,Φs=>∃id l' Φs' x,l = .view id []::l'/\Φs=Φ id::Φs'/\os id=some ⟨true,.list true tid e,x⟩/\qd5 os Φ ps l' Φs'
 |.cm f τ::ps,l,Φs=>∃id l' Φs' x,l = .fn f .nil (.cons (.ptr id []) .nil)::l'/\Φs=Φ id::Φs'/\os id=some ⟨false,τ,x⟩/\qd5 os Φ ps l' Φs'
theorem qa2(hcfg:qu P cfg)(hs:qg P C s a w H Φ){Hf:FH}(hle:H.le Hf):
  ∀{ps:List jT} {l:List AV} {vs:List Value} {kk:PDens ps->Option R},Fzn w Hf Φ s.obj (qt ps l)->qaa (qh P C w H Φ s.obj) l vs->qbP cfg s ps l kk=some r->
   ∃d,kk d=some r/\∃Φs,jP P w Hf ps d vs Φs/\qd5 s.obj Φ ps l Φs
 |[],l,vs,kk,_,hrel,h=>by
  match l,vs,hrel with
  |[],[],_=>exact⟨(),h,[],⟨rfl,rfl⟩,rfl,rfl⟩
  |_::_,_,hrel=>cases h
 |.v τ::ps,l,vs,kk,hf,hrel,h=>by
  match l,vs,hrel with
  |[],_,_=>cases h
  |av::l,v::vs,hrel=>
   simp only[qbP]at h
   obtain⟨hfz,x,h,hv⟩:=snapF_ok hcfg hs hle (λid hid=>hf id (by simp[qt,hid])) hrel.1 h
   obtain⟨d,h,Φs,h2,h3⟩:=qa2 hcfg hs hle (λid hid=>hf id (by simp[qt,hid])) hrel.2 h
   exact⟨(x,d),h,qw::Φs,⟨v,vs,qw,Φs,rfl,rfl,hfz,rfl,hv,h2⟩,av,l,qw,Φs,rfl,rfl,rfl,h3⟩
  |_::_,[],hrel=>exact hrel.elim
 |.r τ::ps,l,vs,kk,hf,hrel,h=>by
  match l,vs,hrel with
  |[],_,_=>cases h
  |av::l,v::vs,hrel=>
   simp only[qbP]at h
   obtain⟨hfz,x,h,hv⟩:=qhd hs hle (FH.le_refl _) (λid hid=>hf id (by simp[qt,hid])) (.inl hrel.1) h
   obtain⟨d,h,Φs,h2,h3⟩:=qa2 hcfg hs hle (λid hid=>hf id (by simp[qt,hid])) hrel.2 h
   exact⟨(x,d),h,qw::Φs,⟨v,vs,qw,Φs,rfl,rfl,hfz,rfl,hv,h2⟩,av,l,qw,Φs,rfl,rfl,rfl,h3⟩
  |_::_,[],hrel=>exact hrel.elim
 |.c f::ps,l,vs,kk,hf,hrel,h=>by
  match l,vs,hrel with
  |[],_,_=>cases h
  |av::l,v::vs,hrel=>
   simp only[qbP]at h
   split at h
   case h_2=>cases h
   rename_i g
   cases hg:Nat.beq g f with
   |false=>rw[hg]at h;cases h
   |true=>
   rw[hg,cond_true]at h
   obtain rfl:=Nat.eq_of_beq_eq_true hg
   obtain⟨d,h,Φs,h2,h3⟩:=qa2 hcfg hs hle (λid hid=>hf id (by simp[qt,hid])) hrel.2 h
   obtain⟨v1,v2,e1,e2,e3⟩:=hrel.1
   have e2:v1 = #[]:=by simpa[qh]using e2
   have e3:v2 = #[]:=by simpa[qh]using e3
   subst e2;subst e3
   exact⟨((),d),h,qw::Φs,⟨v,vs,qw,Φs,rfl,rfl,trivial,rfl,e1,h2⟩,_,l,qw,Φs,rfl,rfl,rfl,h3⟩
  |_::_,[],hrel=>exact hrel.elim
 |.m τ::ps,l,vs,kk,hf,hrel,h=>by
  match l,vs,hrel with
  |[],_,_=>cases h
  |av::l,v::vs,hrel=>
   simp only[qbP]at h
   split at h
   case h_2=>cases h
   rename_i id
   split at h
   case h_2=>cases h
   rename_i o ho
   obtain⟨row,σ,x⟩:=o
   cases row with
   |true=>cases h
   |false=>
   simp only[cond_false,qi]at h
   replace h:=Option.bind_eq_some_iff.1 h
   obtain⟨y,hy,h⟩:=h
   obtain⟨e,hy⟩:=qf hy
   subst e
   subst hy
   obtain⟨d,h,Φs,h2,h3⟩:=qa2 hcfg hs hle (λid hid=>hf id (by simp[qt,hid])) hrel.2 h
   obtain⟨o2,y2,b,off,q1,_,_,q4,q5⟩:=hrel.1
   rw[ho]at q1
   cases q1
   obtain⟨rfl,rfl⟩:=jO.det _ q4 (j6 w σ (Φ id).b 0)
   exact⟨(_,d),h,Φ id::Φs,⟨v,vs,Φ id,Φs,rfl,rfl,q5,(hs.os id _ ho).1.frame hle (λ_ _=>rfl),h2⟩,id,l,Φs,_,rfl,rfl,ho,h3⟩
  |_::_,[],hrel=>exact hrel.elim
 |.gm τ::ps,l,vs,kk,hf,hrel,h=>by
  match l,vs,hrel with
  |[],_,_=>cases h
  |av::l,v::vs,hrel=>
   simp only[qbP]at h
   split at h
   case h_2=>cases h
   rename_i id
   split at h
   case h_2=>cases h
   rename_i o ho
   obtain⟨row,σ,x⟩:=o
   cases row with
   |true=>cases h
   |false=>
   simp only[cond_false,qi]at h
   replace h:=Option.bind_eq_some_iff.1 h
   obtain⟨y,hy,h⟩:=h
   obtain⟨e,hy⟩:=qf hy
   subst e
   subst hy
   obtain⟨d,h,Φs,h2,h3⟩:=qa2 hcfg hs hle (λid hid=>hf id (by simp[qt,hid])) hrel.2 h
   obtain⟨o2,y2,b,off,q1,_,_,q4,q5⟩:=hrel.1
   rw[ho]at q1
   cases q1
   obtain⟨rfl,rfl⟩:=jO.det _ q4 (j6 w σ (Φ id).b 0)
   exact⟨(_,d),h,Φ id::Φs,⟨v,vs,Φ id,Φs,rfl,rfl,q5,(hs.os id _ ho).1.frame hle (λ_ _=>rfl),h2⟩,id,l,Φs,_,rfl,rfl,ho,h3⟩
  |_::_,[],hrel=>exact hrel.elim
 |.mr tid e::ps,l,vs,kk,hf,hrel,h=>by
  match l,vs,hrel with
  |[],_,_=>cases h
  |av::l,v::vs,hrel=>
   simp only[qbP]at h
   split at h
   case h_2=>cases h
   rename_i id
   split at h
   case h_2=>cases h
   rename_i o ho
   obtain⟨row,σ,x⟩:=o
   cases row with
   |false=>cases h
   |true=>
   simp only[cond_true,qi]at h
   replace h:=Option.bind_eq_some_iff.1 h
   obtain⟨y,hy,h⟩:=h
   obtain⟨e,hy⟩:=qf hy
   subst e
   subst hy
   obtain⟨d,h,Φs,h2,h3⟩:=qa2 hcfg hs hle (λid hid=>hf id (by simp[qt,hid])) hrel.2 h
   obtain⟨o2,y2,q1,_,q5⟩:=hrel.1
   rw[ho]at q1
   cases q1
   exact⟨(_,d),h,Φ id::Φs,⟨v,vs,Φ id,Φs,rfl,rfl,q5,(hs.os id _ ho).1.frame hle (λ_ _=>rfl),h2⟩,id,l,Φs,_,rfl,rfl,ho,h3⟩
  |_::_,[],hrel=>exact hrel.elim
 |.t tid e::ps,l,vs,kk,hf,hrel,h=>by
  match l,vs,hrel with
  |[],_,_=>cases h
  |av::l,v::vs,hrel=>
   simp only[qbP]at h
   split at h
   case h_2=>cases h
   rename_i id
   split at h
   case h_2=>cases h
   rename_i o ho
   obtain⟨row,σ,x⟩:=o
   cases row with
   |false=>cases h
   |true=>
   simp only[cond_true,qi]at h
   replace h:=Option.bind_eq_some_iff.1 h
   obtain⟨y,hy,h⟩:=h
   obtain⟨e,hy⟩:=qf hy
   subst e
   subst hy
   obtain⟨d,h,Φs,h2,h3⟩:=qa2 hcfg hs hle (λid hid=>hf id (by simp[qt,hid])) hrel.2 h
   obtain⟨o2,y2,q1,_,q5⟩:=hrel.1
   rw[ho]at q1
   cases q1
   exact⟨(_,d),h,Φ id::Φs,⟨v,vs,Φ id,Φs,rfl,rfl,q5,(hs.os id _ ho).1.frame hle (λ_ _=>rfl),h2⟩,id,l,Φs,_,rfl,rfl,ho,h3⟩
  |_::_,[],hrel=>exact hrel.elim
 |.cm f τ::ps,l,vs,kk,hf,hrel,h=>by
  match l,vs,hrel with
  |[],_,_=>cases h
  |av::l,v::vs,hrel=>
   simp only[qbP]at h
   split at h
   case h_2=>cases h
   rename_i g id
   cases hg:Nat.beq g f with
   |false=>rw[hg]at h;cases h
   |true=>
   rw[hg,cond_true]at h
   obtain rfl:=Nat.eq_of_beq_eq_true hg
   split at h
   case h_2=>cases h
   rename_i o ho
   obtain⟨row,σ,x⟩:=o
   cases row with
   |true=>cases h
   |false=>
   simp only[cond_false,qi]at h
   replace h:=Option.bind_eq_some_iff.1 h
   obtain⟨y,hy,h⟩:=h
   obtain⟨e,hy⟩:=qf hy
   subst e
   subst hy
   obtain⟨d,h,Φs,h2,h3⟩:=qa2 hcfg hs hle (λid hid=>hf id (by simp[qt,hid])) hrel.2 h
   obtain⟨v1,v2,e1,e2,e3⟩:=hrel.1
   have e2:v1 = #[]:=by simpa[qh]using e2
   obtain⟨u,us,e4,⟨o2,y2,b,off,q1,_,_,q4,q5⟩,e5⟩:=e3
   have e5:us=[]:=by simpa[qh]using e5
   have e4:v2 = #[u]:=by simpa[e5]using e4
   rw[ho]at q1
   cases q1
   obtain⟨rfl,rfl⟩:=jO.det _ q4 (j6 w σ (Φ id).b 0)
   exact⟨(_,d),h,Φ id::Φs,⟨v,vs,Φ id,Φs,rfl,rfl,by rw[e1,e2,e4,q5],(hs.os id _ ho).1.frame hle (λ_ _=>rfl),h2⟩,id,l,Φs,_,rfl,rfl,ho,h3⟩
  |_::_,[],hrel=>exact hrel.elim
end
end Go.Vi
namespace Go.Vi
section
variable {P:Program} {C:Ctx} {cfg:jG} {R:Type} {r:R} {s:St} {a:Act} {w:World} {H:FH} {Φ:Nat->qB} {dst:Option Nat} {ty:TypeId} {pos:String} {after:Array Edge} {guard:Option (Nat×Bool)} {k:St->Option R}
def qgE(id:Nat):Option Obj->AV->Bool
 |some o=>AV.stale id o.row
 |none=>AV.names id
def qeP(ch:Nat->Option (Option Obj×List Nat))(Φ:Nat->qB)(id:Nat):qB:=
 match ch id with
 |some x=>⟨(Φ id).b,(Φ id).hdr,x.2⟩
 |none=>Φ id
theorem qg.changes{s s':St}{a:Act}{w w':World}{H H':FH}{Φ:Nat->qB}(h:qg P C s a w H Φ){ch:Nat->Option (Option Obj×List Nat)}{F:AV->Bool}
  (hch:∀id x,ch id=some x->∃o,s.obj id=some o/\∀ob,x.1=some ob->ob.row=o.row/\ob.τ=o.τ/\qK P w' H' ob ⟨(Φ id).b,(Φ id).hdr,x.2⟩)
  (hobj:∀id,s'.obj id=match ch id with|some x=>x.1|none=>s.obj id)
  (hget:∀t,s'.get t=(s.get t).map (AV.killIf F)) (hF:∀id x,ch id=some x->∀av,qgE id x.1 av=true->F av=true) (hFu:∀av,AV.isUpd av=true->F av=true)
  (hH:H.le H') (hok':HOk H' w') (hnew:∀b c,H' b=some c->C.H0 b=some c\/C.M0 b\/C.w0.heap.size<=b) (hmod:jM C.M0 C.w0 w') (hsz:w.heap.size<=w'.heap.size)
  (hw:∀j o',ch j=none->s.obj j=some o'->∀b∈(Φ j).fp,w'.heap[b]? = w.heap[b]?/\H' b=none)
  (hfp:∀id x,ch id=some x->∀b∈x.2,H' b=none/\(C.M0 b\/C.w0.heap.size<=b)/\b<w'.heap.size/\∀j o',ch j=none->s.obj j=some o'->b∉(Φ j).fp)
  (hdisj:∀i j x y,i≠j->ch i=some x->ch j=some y->∀b∈x.2,b∉y.2):
  qg P C s' a w' H' (qeP ch Φ):=by
 have hsame:∀j,ch j=none->qeP ch Φ j=Φ j:=λj hj=>by unfold qeP;rw[hj]
 have hthat:∀j x,ch j=some x->qeP ch Φ j=⟨(Φ j).b,(Φ j).hdr,x.2⟩:=λj x hj=>by unfold qeP;rw[hj]
 have hos:∀j o',ch j=none->s.obj j=some o'->s'.obj j=some o':=by
  intro j o' hj hoj
  rw[hobj,hj];exact hoj
 refine⟨h.defers,h.size,FH.le_trans h.le hH,hok',hnew,hmod,?_,?_,?_,?_⟩
 ·intro t av ht
  rw[hget]at ht
  obtain⟨av0,h0,rfl⟩:=Option.map_eq_some_iff.1 ht
  refine qh.transfer F hH ?_ ?_ ?_ av0 _ (h.ts t av0 h0)
  ·intro j p v hf hr
   cases hj:ch j with
   |some x=>
    obtain⟨xo,xf⟩:=x
    cases xo with
    |none=>
     have:=hF j _ hj (.ptr j p) (by simp[qgE,AV.names,Nat.beq_refl])
     rw[hf]at this;cases this
    |some xo=>
    obtain⟨o,ho,hall⟩:=hch j _ hj
    obtain⟨hrow,hτ,_⟩:=hall xo rfl
    obtain⟨o1,y,b,off,h1,h2,h3,h4,h5⟩:=hr
    rw[ho]at h1
    cases h1
    have hp:p.any qq.isI=false:=by
     cases hpp:p.any qq.isI with
     |false=>rfl
     |true=>
      have:=hF j _ hj (.ptr j p) (by simp[qgE,AV.stale,Nat.beq_refl,hpp])
      rw[hf]at this;cases this
    have hrow0:o.row=false:=by
     cases hr:o.row with
     |false=>rfl
     |true=>
      exfalso
      obtain⟨row,τ,x⟩:=o
      simp only at hr
      subst hr
      unfold jS at h4
      simp only at h4
      split at h4
      ·simp[qq.isI]at hp
      ·exact h4
    obtain⟨xrow,xτ,xx⟩:=xo
    obtain⟨row,τ,ox⟩:=o
    simp only at hrow hτ hrow0
    subst hτ
    subst hrow
    subst hrow0
    obtain⟨y',hy'⟩:=qbm xτ xx hp (jD _ h3)
    refine⟨⟨false,xτ,xx⟩,⟨y.1,y'⟩,b,off,?_,rfl,hy',?_,h5⟩
    ·rw[hobj,hj]
    ·rw[hthat j _ hj]
     exact jO.static _ hp h4
   |none=>exact qh.ptr_stay (λo ho=>hos j o hj ho) (hsame j hj) (λo1 ho1=>⟨(h.os j o1 ho1).1,λb hb=>(hw j o1 hj ho1 b hb).1⟩) hr
  ·intro j p v hf hr
   cases hj:ch j with
   |some x=>
    obtain⟨xo,xf⟩:=x
    cases xo with
    |none=>
     have:=hF j _ hj (.view j p) (by simp[qgE,AV.names,Nat.beq_refl])
     rw[hf]at this;cases this
    |some xo=>
    obtain⟨o,ho,hall⟩:=hch j _ hj
    obtain⟨hrow,hτ,_⟩:=hall xo rfl
    have hp:(o.row&&p.isEmpty)=true:=by
     cases hpp:o.row&&p.isEmpty with
     |true=>rfl
     |false=>
      have:=hF j _ hj (.view j p) (by simp[qgE,AV.stale,Nat.beq_refl,hrow,hpp])
      rw[hf]at this;cases this
    obtain⟨o1,y,h1,h2,h3⟩:=hr
    rw[ho]at h1
    cases h1
    rw[hp]at h3
    simp only[Bool.and_eq_true,List.isEmpty_iff]at hp
    obtain⟨hrow0,rfl⟩:=hp
    refine⟨xo,⟨xo.τ,xo.x⟩,by rw[hobj,hj],qH _ _,?_⟩
    simp only[hrow,hrow0,List.isEmpty_nil,Bool.and_self,hthat j _ hj]
    exact h3
   |none=>exact qh.view_stay (λo ho=>hos j o hj ho) (hsame j hj) (λo1 ho1=>⟨(h.os j o1 ho1).1,λb hb=>(hw j o1 hj ho1 b hb).1⟩) hr
  ·intro j p t e l v hf
   rw[hFu _ rfl]at hf;cases hf
 ·intro j o1 hj
  rw[hobj]at hj
  cases hc:ch j with
  |some x=>
   rw[hc]at hj
   obtain⟨o,ho,hall⟩:=hch j x hc
   obtain⟨_,_,hok⟩:=hall o1 hj
   rw[hthat j x hc]
   exact⟨hok,λb hb=>⟨(hfp j x hc b hb).1,(hfp j x hc b hb).2.1,(hfp j x hc b hb).2.2.1⟩⟩
  |none=>
   rw[hc]at hj
   rw[hsame j hc]
   obtain⟨h1,h2⟩:=h.os j o1 hj
   exact⟨h1.frame hH (λb hb=>(hw j o1 hc hj b hb).1),λb hb=>⟨(hw j o1 hc hj b hb).2,(h2 b hb).2.1,Nat.lt_of_lt_of_le (h2 b hb).2.2 hsz⟩⟩
 ·intro i j o1 o2 hij h1 h2 b hb
  rw[hobj]at h1 h2
  cases hi:ch i with
  |some x=>
   rw[hthat i x hi]at hb
   cases hj:ch j with
   |some y=>
    rw[hthat j y hj]
    exact hdisj i j x y hij hi hj b hb
   |none=>
    rw[hj]at h2
    rw[hsame j hj]
    exact(hfp i x hi b hb).2.2.2 j o2 hj h2
  |none=>
   rw[hi]at h1
   rw[hsame i hi]at hb
   cases hj:ch j with
   |some y=>
    rw[hthat j y hj]
    intro hb'
    exact(hfp j y hj b hb').2.2.2 i o1 hi h1 hb
   |none=>
    rw[hj]at h2
    rw[hsame j hj]
    exact h.disj i j o1 o2 hij h1 h2 b hb
 ·refine⟨λj φ' hj=>?_,λj=>?_⟩
  ·have:=h.pins.1 j φ' hj
   cases hc:ch j with
   |some x=>rw[hthat j x hc];exact this
   |none=>rw[hsame j hc];exact this
  ·have:=h.pins.2 j
   cases hc:ch j with
   |some x=>rw[hthat j x hc];exact this
   |none=>rw[hsame j hc];exact this
theorem j4(f g:AV->Bool):∀av:AV,(av.killIf f).killIf g=av.killIf (λx=>f x||g x)
 |.dead=>by simp only[AV.killIf];cases f .dead<;>simp[AV.killIf]
 |.val τ x=>by simp only[AV.killIf];cases f (.val τ x)<;>simp[AV.killIf]
 |.ref τ x=>by simp only[AV.killIf];cases f (.ref τ x)<;>simp[AV.killIf]
 |.ptr i p=>by simp only[AV.killIf];cases f (.ptr i p)<;>simp[AV.killIf]
 |.view i p=>by simp only[AV.killIf];cases f (.view i p)<;>simp[AV.killIf]
 |.upd i p t e l=>by simp only[AV.killIf];cases f (.upd i p t e l)<;>simp[AV.killIf]
 |.cut i p z lo=>by simp only[AV.killIf];cases hf:f (.view i p)<;>simp[AV.killIf]
 |.fn h a b=>by simp only[AV.killIf,j4 f g a,j4 f g b]
 |.nil=>by simp only[AV.killIf];cases f .nil<;>simp[AV.killIf]
 |.gh n a=>by simp only[AV.killIf,j4 f g a]
 |.cv i h n=>by simp only[AV.killIf];cases f (.cv i h n)<;>simp[AV.killIf]
 |.cons a b=>by simp only[AV.killIf,j4 f g a,j4 f g b]
theorem qbJ{os:Nat->Option Obj}{w':World}{H':FH}{Hf:FH}:∀{ps:List jT} {l:List AV} {vs:List Value} {Φs Φs':List qB} {d:PDens ps} {md:MDens ps},qd5 os Φ ps l Φs->jP P w Hf ps d vs Φs->jK P w' H' ps md vs Φs'->
  ∃ML:List (Nat×Option Obj×List Nat),ML.map (·.1)=qE ps l/\qd Φs'=ML.flatMap (·.2.2)/\qd Φs=ML.flatMap (λx=>(Φ x.1).fp)/\
   (∀x∈ML,∃o,os x.1=some o/\∀ob,x.2.1=some ob->ob.row=o.row/\ob.τ=o.τ/\qK P w' H' ob ⟨(Φ x.1).b,(Φ x.1).hdr,x.2.2⟩)/\
   ∀s0:St,∃F,(∀t,(qx s0 ps l md).get t=(s0.get t).map (AV.killIf F))/\(∀x∈ML,∀av,qgE x.1 x.2.1 av=true->F av=true)/\((ML.map (·.1)).Nodup->∀j,(qx s0 ps l md).obj j=match lk ML j with|some x=>x.1|none=>s0.obj j)
 |[],l,vs,Φs,Φs',d,md,hm,ha,hmu=>by
  obtain⟨rfl,rfl⟩:=hm
  obtain⟨rfl,_⟩:=ha
  obtain⟨_,rfl⟩:=hmu
  refine⟨[],rfl,rfl,rfl,by simp,λs0=>⟨λ_=>false,λt=>?_,by simp,λ_ j=>rfl⟩⟩
  simp only[qx]
  cases s0.get t with
  |none=>rfl
  |some av=>simp[qh.id_kill]
 |.v τ::ps,l,vs,Φs,Φs',d,md,hm,ha,hmu=>by
  obtain⟨av,l',φ,Φs1,rfl,rfl,hφ,hm⟩:=hm
  obtain⟨v,vs',φ',Φs1',rfl,e1,_,hφ',_,ha⟩:=ha
  obtain⟨rfl,rfl⟩:φ=φ'/\Φs1=Φs1':=by simpa using e1
  obtain⟨v2,vs2,φ2,Φs2,e2,rfl,hφ2,hmu⟩:=hmu
  obtain⟨rfl,rfl⟩:v=v2/\vs'=vs2:=by simpa using e2
  obtain⟨ML,h1,h2,h3,h4,h5⟩:=qbJ hm ha hmu
  exact⟨ML,h1,by simpa[qd,hφ2]using h2,by simpa[qd,hφ]using h3,h4,h5⟩
 |.r τ::ps,l,vs,Φs,Φs',d,md,hm,ha,hmu=>by
  obtain⟨av,l',φ,Φs1,rfl,rfl,hφ,hm⟩:=hm
  obtain⟨v,vs',φ',Φs1',rfl,e1,_,hφ',_,ha⟩:=ha
  obtain⟨rfl,rfl⟩:φ=φ'/\Φs1=Φs1':=by simpa using e1
  obtain⟨v2,vs2,φ2,Φs2,e2,rfl,hφ2,hmu⟩:=hmu
  obtain⟨rfl,rfl⟩:v=v2/\vs'=vs2:=by simpa using e2
  obtain⟨ML,h1,h2,h3,h4,h5⟩:=qbJ hm ha hmu
  exact⟨ML,h1,by simpa[qd,hφ2]using h2,by simpa[qd,hφ]using h3,h4,h5⟩
 |.c _::ps,l,vs,Φs,Φs',d,md,hm,ha,hmu=>by
  obtain⟨av,l',φ,Φs1,rfl,rfl,hφ,hm⟩:=hm
  obtain⟨v,vs',φ',Φs1',rfl,e1,_,hφ',_,ha⟩:=ha
  obtain⟨rfl,rfl⟩:φ=φ'/\Φs1=Φs1':=by simpa using e1
  obtain⟨v2,vs2,φ2,Φs2,e2,rfl,hφ2,hmu⟩:=hmu
  obtain⟨rfl,rfl⟩:v=v2/\vs'=vs2:=by simpa using e2
  obtain⟨ML,h1,h2,h3,h4,h5⟩:=qbJ hm ha hmu
  exact⟨ML,h1,by simpa[qd,hφ2]using h2,by simpa[qd,hφ]using h3,h4,h5⟩
 |.m τ::ps,l,vs,Φs,Φs',d,md,hm,ha,hmu=>by
  obtain⟨id,l',Φs1,x,rfl,rfl,ho,hm⟩:=hm
  obtain⟨v,vs',φ',Φs1',rfl,e1,hv,_,ha⟩:=ha
  obtain⟨rfl,rfl⟩:Φ id=φ'/\Φs1=Φs1':=by simpa using e1
  obtain⟨v2,vs2,φ2,Φs2,e2,rfl,hv2,hok2,hmu⟩:=hmu
  obtain⟨rfl,rfl⟩:v=v2/\vs'=vs2:=by simpa using e2
  obtain⟨ML,h1,h2,h3,h4,h5⟩:=qbJ hm ha hmu
  have hb:φ2.b=(Φ id).b:=by
   rw[hv]at hv2
   simpa using hv2.symm
  refine⟨(id,some ⟨false,τ,md.1⟩,φ2.fp)::ML,by simp[qE,AV.name,h1],by simpa[qd]using h2,by simpa[qd]using h3,?_,?_⟩
  ·intro y hy
   rcases List.mem_cons.1 hy with rfl|hy
   ·refine⟨_,ho,λob hob=>?_⟩
    cases hob
    refine⟨rfl,rfl,?_⟩
    obtain⟨k1,k2,blk,t,fp',k3,k4,k5⟩:=hok2
    exact⟨k1,k2,blk,t,fp',by rw[<-hb];exact k3,k4,by rw[<-hb];exact k5⟩
   ·exact h4 y hy
  ·intro s0
   obtain⟨F,g1,g2,g3⟩:=h5 ((s0.killIf (AV.stale id false)).setObj id (some ⟨false,τ,md.1⟩))
   refine⟨λav=>AV.stale id false av||F av,?_,?_,?_⟩
   ·intro t
    show(qx ((s0.killIf (AV.stale id false)).setObj id (some ⟨false,τ,md.1⟩)) ps l' md.2).get t=_
    rw[g1,St.get_setObj,St.get_killIf]
    cases s0.get t with
    |none=>rfl
    |some av=>simp[j4]
   ·intro y hy av hst
    rcases List.mem_cons.1 hy with rfl|hy
    ·have hst:AV.stale id false av=true:=hst
     simp[hst]
    ·simp[g2 y hy av hst]
   ·intro hnd j
    simp only[List.map_cons,List.nodup_cons]at hnd
    show(qx ((s0.killIf (AV.stale id false)).setObj id (some ⟨false,τ,md.1⟩)) ps l' md.2).obj j=_
    rw[g3 hnd.2 j,jQ,St.obj_setObj,St.obj_killIf]
    cases hb:Nat.beq id j with
    |true=>
     obtain rfl:=Nat.eq_of_beq_eq_true hb
     rw[qef hnd.1,if_pos rfl]
     rfl
    |false=>
     rw[if_neg (Nat.ne_of_beq_eq_false hb)]
     rfl
 |.mr tid e::ps,l,vs,Φs,Φs',d,md,hm,ha,hmu=>by
  obtain⟨id,l',Φs1,x,rfl,rfl,ho,hm⟩:=hm
  obtain⟨v,vs',φ',Φs1',rfl,e1,hv,_,ha⟩:=ha
  obtain⟨rfl,rfl⟩:Φ id=φ'/\Φs1=Φs1':=by simpa using e1
  obtain⟨v2,vs2,φ2,Φs2,e2,rfl,hv2,hok2,hmu⟩:=hmu
  obtain⟨rfl,rfl⟩:v=v2/\vs'=vs2:=by simpa using e2
  obtain⟨ML,h1,h2,h3,h4,h5⟩:=qbJ hm ha hmu
  have hb:φ2.hdr=(Φ id).hdr:=by rw[<-hv,hv2]
  refine⟨(id,some ⟨true,.list true tid e,md.1⟩,φ2.fp)::ML,by simp[qE,AV.name,h1],by simpa[qd]using h2,by simpa[qd]using h3,?_,?_⟩
  ·intro y hy
   rcases List.mem_cons.1 hy with rfl|hy
   ·refine⟨_,ho,λob hob=>?_⟩
    cases hob
    refine⟨rfl,rfl,?_⟩
    obtain⟨k1,k2,k3,k4⟩:=hok2
    exact⟨k1,k2,k3,by rw[<-hb];exact k4⟩
   ·exact h4 y hy
  ·intro s0
   obtain⟨F,g1,g2,g3⟩:=h5 ((s0.killIf (AV.stale id true)).setObj id (some ⟨true,.list true tid e,md.1⟩))
   refine⟨λav=>AV.stale id true av||F av,?_,?_,?_⟩
   ·intro t
    show(qx ((s0.killIf (AV.stale id true)).setObj id (some ⟨true,.list true tid e,md.1⟩)) ps l' md.2).get t=_
    rw[g1,St.get_setObj,St.get_killIf]
    cases s0.get t with
    |none=>rfl
    |some av=>simp[j4]
   ·intro y hy av hst
    rcases List.mem_cons.1 hy with rfl|hy
    ·have hst:AV.stale id true av=true:=hst
     simp[hst]
    ·simp[g2 y hy av hst]
   ·intro hnd j
    simp only[List.map_cons,List.nodup_cons]at hnd
    show(qx ((s0.killIf (AV.stale id true)).setObj id (some ⟨true,.list true tid e,md.1⟩)) ps l' md.2).obj j=_
    rw[g3 hnd.2 j,jQ,St.obj_setObj,St.obj_killIf]
    cases hb:Nat.beq id j with
    |true=>
     obtain rfl:=Nat.eq_of_beq_eq_true hb
     rw[qef hnd.1,if_pos rfl]
     rfl
    |false=>
     rw[if_neg (Nat.ne_of_beq_eq_false hb)]
     rfl
 |.t tid e::ps,l,vs,Φs,Φs',d,md,hm,ha,hmu=>by
  obtain⟨id,l',Φs1,x,rfl,rfl,ho,hm⟩:=hm
  obtain⟨v,vs',φ',Φs1',rfl,e1,hv,_,ha⟩:=ha
  obtain⟨rfl,rfl⟩:Φ id=φ'/\Φs1=Φs1':=by simpa using e1
  obtain⟨v2,vs2,φ2,Φs2,e2,rfl,hφ2,hmu⟩:=hmu
  obtain⟨rfl,rfl⟩:v=v2/\vs'=vs2:=by simpa using e2
  obtain⟨ML,h1,h2,h3,h4,h5⟩:=qbJ hm ha hmu
  refine⟨(id,none,[])::ML,by simp[qE,AV.name,h1],by simpa[qd,hφ2]using h2,by simpa[qd]using h3,?_,?_⟩
  ·intro y hy
   rcases List.mem_cons.1 hy with rfl|hy
   ·exact⟨_,ho,λob hob=>by cases hob⟩
   ·exact h4 y hy
  ·intro s0
   obtain⟨F,g1,g2,g3⟩:=h5 ((s0.kill id).setObj id none)
   refine⟨λav=>AV.names id av||F av,?_,?_,?_⟩
   ·intro t
    show(qx ((s0.kill id).setObj id none) ps l' md).get t=_
    rw[g1,St.get_setObj,St.kill,St.get_killIf]
    cases s0.get t with
    |none=>rfl
    |some av=>simp[j4]
   ·intro y hy av hst
    rcases List.mem_cons.1 hy with rfl|hy
    ·have hst:AV.names id av=true:=hst
     simp[hst]
    ·simp[g2 y hy av hst]
   ·intro hnd j
    simp only[List.map_cons,List.nodup_cons]at hnd
    show(qx ((s0.kill id).setObj id none) ps l' md).obj j=_
    rw[g3 hnd.2 j,jQ,St.obj_setObj,St.kill,St.obj_killIf]
    cases hb:Nat.beq id j with
    |true=>
     obtain rfl:=Nat.eq_of_beq_eq_true hb
     rw[qef hnd.1,if_pos rfl]
     rfl
    |false=>
     rw[if_neg (Nat.ne_of_beq_eq_false hb)]
     rfl
 |.gm τ::ps,l,vs,Φs,Φs',d,md,hm,ha,hmu=>by
  obtain⟨id,l',Φs1,x,rfl,rfl,ho,hm⟩:=hm
  obtain⟨v,vs',φ',Φs1',rfl,e1,hv,_,ha⟩:=ha
  obtain⟨rfl,rfl⟩:Φ id=φ'/\Φs1=Φs1':=by simpa using e1
  obtain⟨v2,vs2,φ2,Φs2,e2,rfl,hφ2,hmu⟩:=hmu
  obtain⟨rfl,rfl⟩:v=v2/\vs'=vs2:=by simpa using e2
  obtain⟨ML,h1,h2,h3,h4,h5⟩:=qbJ hm ha hmu
  refine⟨(id,none,[])::ML,by simp[qE,AV.name,h1],by simpa[qd,hφ2]using h2,by simpa[qd]using h3,?_,?_⟩
  ·intro y hy
   rcases List.mem_cons.1 hy with rfl|hy
   ·exact⟨_,ho,λob hob=>by cases hob⟩
   ·exact h4 y hy
  ·intro s0
   obtain⟨F,g1,g2,g3⟩:=h5 ((s0.kill id).setObj id none)
   refine⟨λav=>AV.names id av||F av,?_,?_,?_⟩
   ·intro t
    show(qx ((s0.kill id).setObj id none) ps l' md).get t=_
    rw[g1,St.get_setObj,St.kill,St.get_killIf]
    cases s0.get t with
    |none=>rfl
    |some av=>simp[j4]
   ·intro y hy av hst
    rcases List.mem_cons.1 hy with rfl|hy
    ·have hst:AV.names id av=true:=hst
     simp[hst]
    ·simp[g2 y hy av hst]
   ·intro hnd j
    simp only[List.map_cons,List.nodup_cons]at hnd
    show(qx ((s0.kill id).setObj id none) ps l' md).obj j=_
    rw[g3 hnd.2 j,jQ,St.obj_setObj,St.kill,St.obj_killIf]
    cases hb:Nat.beq id j with
    |true=>
     obtain rfl:=Nat.eq_of_beq_eq_true hb
     rw[qef hnd.1,if_pos rfl]
     rfl
    |false=>
     rw[if_neg (Nat.ne_of_beq_eq_false hb)]
     rfl
 |.cm f τ::ps,l,vs,Φs,Φs',d,md,hm,ha,hmu=>by
  obtain⟨id,l',Φs1,x,rfl,rfl,ho,hm⟩:=hm
  obtain⟨v,vs',φ',Φs1',rfl,e1,hv,_,ha⟩:=ha
  obtain⟨rfl,rfl⟩:Φ id=φ'/\Φs1=Φs1':=by simpa using e1
  obtain⟨v2,vs2,φ2,Φs2,e2,rfl,hv2,hok2,hmu⟩:=hmu
  obtain⟨rfl,rfl⟩:v=v2/\vs'=vs2:=by simpa using e2
  obtain⟨ML,h1,h2,h3,h4,h5⟩:=qbJ hm ha hmu
  have hb:φ2.b=(Φ id).b:=by
   rw[hv]at hv2
   simpa using hv2.symm
  refine⟨(id,some ⟨false,τ,md.1⟩,φ2.fp)::ML,by simp[qE,AV.capName,AV.name,h1],by simpa[qd]using h2,by simpa[qd]using h3,?_,?_⟩
  ·intro y hy
   rcases List.mem_cons.1 hy with rfl|hy
   ·refine⟨_,ho,λob hob=>?_⟩
    cases hob
    refine⟨rfl,rfl,?_⟩
    obtain⟨k1,k2,blk,t,fp',k3,k4,k5⟩:=hok2
    exact⟨k1,k2,blk,t,fp',by rw[<-hb];exact k3,k4,by rw[<-hb];exact k5⟩
   ·exact h4 y hy
  ·intro s0
   obtain⟨F,g1,g2,g3⟩:=h5 ((s0.killIf (AV.stale id false)).setObj id (some ⟨false,τ,md.1⟩))
   refine⟨λav=>AV.stale id false av||F av,?_,?_,?_⟩
   ·intro t
    show(qx ((s0.killIf (AV.stale id false)).setObj id (some ⟨false,τ,md.1⟩)) ps l' md.2).get t=_
    rw[g1,St.get_setObj,St.get_killIf]
    cases s0.get t with
    |none=>rfl
    |some av=>simp[j4]
   ·intro y hy av hst
    rcases List.mem_cons.1 hy with rfl|hy
    ·have hst:AV.stale id false av=true:=hst
     simp[hst]
    ·simp[g2 y hy av hst]
   ·intro hnd j
    simp only[List.map_cons,List.nodup_cons]at hnd
    show(qx ((s0.killIf (AV.stale id false)).setObj id (some ⟨false,τ,md.1⟩)) ps l' md.2).obj j=_
    rw[g3 hnd.2 j,jQ,St.obj_setObj,St.obj_killIf]
    cases hb:Nat.beq id j with
    |true=>
     obtain rfl:=Nat.eq_of_beq_eq_true hb
     rw[qef hnd.1,if_pos rfl]
     rfl
    |false=>
     rw[if_neg (Nat.ne_of_beq_eq_false hb)]
     rfl
end
end Go.Vi
