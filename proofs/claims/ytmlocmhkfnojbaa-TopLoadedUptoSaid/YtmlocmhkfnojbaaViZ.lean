/- The abstract interpreter Vi, part A, continued: a verified interpreter over the model's code, whose run of a function gives the contract of the function. No condition beyond those typed in each theorem. -/
import Derived.Test.YtmlocmhkfnojbaaViA
namespace Go.Vi
section
variable {P:Program} {C:Ctx}
theorem qdY:(τ:Ty)->τ.isFz=true->∀{p:List qq} {σ:Ty},qci τ p=some σ->σ.isFz=true
 |.pair a b,hf,p,σ,h=>by
  have hf':=hf
  simp only[Ty.isFz,Bool.and_eq_true]at hf'
  match p with
  |[]=>cases h;exact hf
  |.L::q=>exact qdY a hf'.1 h
  |.R::q=>exact qdY b hf'.2 h
  |.I _::_=>cases h
 |.str t,hf,p,σ,h=>by
  match p with
  |[]=>cases h;exact hf
  |s::q=>exact qdY t hf h
 |.list true tid e,hf,p,σ,h=>by simp[Ty.isFz]at hf
 |.arr n e,hf,p,σ,h=>by
  match p with
  |[]=>cases h;exact hf
  |.L::_=>cases h
  |.R::_=>cases h
  |.I _::q=>exact qdY e hf h
 |.int _,hf,p,_,h=>by cases p<;>cases h;exact hf
 |.bool,hf,p,_,h=>by cases p<;>cases h;exact hf
 |.list false _ _,hf,p,_,h=>by cases p<;>cases h;exact hf
 |.ptr _,hf,p,_,h=>by cases p<;>cases h;exact hf
 |.op _,hf,p,_,h=>by simp[Ty.isFz]at hf
 |.fn _ _,hf,p,_,h=>by cases p<;>cases h;exact hf
 |.fn2 _ _ _,hf,p,_,h=>by cases p<;>cases h;exact hf
 |.ext _ _ _ _,hf,p,_,h=>by cases p<;>cases h;exact hf
theorem qaH:(τ:Ty)->∀{x:τ.den} {p q:List qq} {y},qP τ x p=some y->qP τ x (p++q)=qP y.1 y.2 q
 |.pair a b,x,p,q,y,h=>by
  match p with
  |[]=>cases h;rfl
  |.L::_=>exact qaH a h
  |.R::_=>exact qaH b h
  |.I _::_=>cases h
 |.str t,x,p,q,y,h=>by
  match p with
  |[]=>cases h;rfl
  |s::_=>exact qaH t h
 |.list true tid e,x,p,q,y,h=>by
  match p with
  |[]=>cases h;rfl
  |.L::_=>cases h
  |.R::_=>cases h
  |.I i::r=>
   simp only[qP,List.cons_append]at h ⊢
   split at h
   ·rename_i hi
    rw[if_pos hi]
    obtain⟨z,hz,h⟩:=Option.bind_eq_some_iff.1 h
    rw[hz]
    exact qaH e h
   ·cases h
 |.arr n e,x,p,q,y,h=>by
  match p with
  |[]=>cases h;rfl
  |.L::_=>cases h
  |.R::_=>cases h
  |.I i::r=>
   simp only[qP,List.cons_append]at h ⊢
   split at h
   ·rename_i hi
    rw[if_pos hi]
    obtain⟨z,hz,h⟩:=Option.bind_eq_some_iff.1 h
    rw[hz]
    exact qaH e h
   ·cases h
 |.op t,x,p,q,y,h=>by
  match p with
  |[]=>cases h;rfl
  |.L::_=>cases h
  |.R::_=>cases h
  |.I i::r=>
   simp only[qP,List.cons_append]at h ⊢
   obtain⟨z,rfl,h⟩:=Option.bind_eq_some_iff.1 h
   exact qaH t h
 |.int _,_,p,_,_,h=>by cases p<;>cases h;rfl
 |.bool,_,p,_,_,h=>by cases p<;>cases h;rfl
 |.list false _ _,_,p,_,_,h=>by cases p<;>cases h;rfl
 |.ptr _,_,p,_,_,h=>by cases p<;>cases h;rfl
 |.fn _ _,_,p,_,_,h=>by cases p<;>cases h;rfl
 |.fn2 _ _ _,_,p,_,_,h=>by cases p<;>cases h;rfl
 |.ext _ _ _ _,_,p,_,_,h=>by cases p<;>cases h;rfl
theorem jS.append{w:World}{o:Obj}{φ:qB}{p q:List qq}{b off b2 off2:Nat}{σ:Ty}(h:jS w o φ p b off)(ht:qci o.τ p=some σ)(k:jO w σ b off q b2 off2):jS w o φ (p++q) b2 off2:=by
 obtain⟨row,τ,x⟩:=o
 cases row with
 |false=>exact jO.append τ ht h k
 |true=>
  cases τ with
  |list own tid e=>
   cases own with
   |false=>exact h.elim
   |true=>
    match p with
    |[]=>exact h.elim
    |.L::_=>exact h.elim
    |.R::_=>exact h.elim
    |.I i::r=>
     obtain⟨g,n,cap,e1,e2⟩:=h
     exact⟨g,n,cap,e1,jO.append e ht e2 k⟩
  |_=>exact h.elim
theorem qiV:(s:Ty)->∀i,qbF s.fz i=qbF s i/\qaD s.fz i=qaD s i
 |.pair a b,0=>⟨rfl,rfl⟩
 |.pair a b,i+1=>by
  have:=qiV b i
  exact⟨congrArg (qq.R :: ·) this.1,this.2⟩
 |.int _,_=>⟨rfl,rfl⟩
 |.bool,_=>⟨rfl,rfl⟩
 |.list _ _ _,_=>⟨rfl,rfl⟩
 |.str _,_=>⟨rfl,rfl⟩
 |.ptr _,_=>⟨rfl,rfl⟩
 |.op _,_=>⟨rfl,rfl⟩
 |.arr _ _,_=>⟨rfl,rfl⟩
 |.fn _ _,_=>⟨rfl,rfl⟩
 |.fn2 _ _ _,_=>⟨rfl,rfl⟩
 |.ext _ _ _ _,_=>⟨rfl,rfl⟩
theorem Addr.add_none(b o n:Nat):(⟨b,o,none⟩:Addr).add n=⟨b,o+n,none⟩:=by unfold Addr.add;split<;>simp_all
theorem qjy{c:Array Value}{o n:Nat}(h:(seg c o n).length=n)(hn:0<n):∃pre post,c.toList=pre++seg c o n++post/\pre.length=o:=by
 unfold seg at h ⊢
 refine⟨c.toList.take o,(c.toList.drop o).drop n,?_,?_⟩
 ·rw[List.append_assoc,List.take_append_drop,List.take_append_drop]
 ·rw[List.length_take,List.length_drop]at h
  rw[List.length_take];omega
theorem qkd{c:Array Value}{o n k m:Nat}{pre x post:List Value}(h:seg c o n=pre++x++post)(hk:pre.length=k)(hm:x.length=m):seg c (o+k) m=x:=by
 unfold seg at h ⊢
 rw[<-List.drop_drop]
 have e:=List.take_append_drop n (c.toList.drop o)
 rw[h]at e
 rw[<-e,List.append_assoc,List.append_assoc,<-hk,List.drop_left,<-hm,List.take_left]
theorem qds{t:TypeId}{fs:Array Field}(hu:P.underlying t=some (.struct fs)){f:Field}{σ:Ty}{i:Nat}(hf:fs.toList[i]? = some f)(ht:qN P f.type σ)(b o:Nat)(w:World):
  (Instr.fieldAt t (.pointer (some ⟨b,o,none⟩)) i).run P w = .ok (.pointer (some ⟨b,o+f.offset,none⟩)) w:=by
 have hf':fs[i]? = some f:=by simpa using hf
 obtain⟨j,h1,h2,h3,_⟩:=ht.info
 have hne:¬j.size=0:=by omega
 simp[Instr.fieldAt,run_underlying hu,hf',Instr.sureAddr,fieldPlace,Go.sizeOf,typeInfo,h1,hne,Addr.add_none]
variable {cfg:jG} {R:Type} {r:R} {s:St} {a:Act} {w:World} {H:FH} {Φ:Nat->qB} {dst:Option Nat} {ty:TypeId} {pos:String} {after:Array Edge} {guard:Option (Nat×Bool)} {k:St->Option R}
theorem qks(hcfg:qu P cfg)(hC:qz C cfg){T:TypeId}{x:Operand}{i:Nat}(hs:qg P C s a w H Φ)(hd:qF cfg.nt dst=true)(h:qG cfg ⟨dst,.fieldAddr T x i,ty,pos,after,guard⟩ s k=some r):
  ∃s',k s'=some r/\qah P C ⟨dst,.fieldAddr T x i,ty,pos,after,guard⟩ a w s':=by
 simp only[qG]at h
 split at h
 case h_2=>cases h
 rename_i av he
 have hr:=qk hs qv he
 unfold qiY at h
 split at h
 ·cases h
 rename_i T' hT
 obtain⟨hty,hfz⟩:=hcfg.ty T T' hT
 split at h
 ·cases h
 rename_i q hq
 unfold qne at hq
 split at hq
 case h_2=>cases hq
 rename_i t'
 cases hhf:qaD t' i with
 |false=>rw[hhf]at hq;cases hq
 |true=>
  rw[hhf]at hq
  cases hq
  split at h
  ·rename_i t y
   cases ht:decide (Ty.str t = .str t')with
   |false=>rw[ht]at h;cases h
   |true=>
    rw[ht,cond_true]at h
    have ht:=of_decide_eq_true ht
    injection ht with ht
    subst ht
    obtain⟨_,b,o,blk,hv,hH,hrep⟩:=hr
    obtain⟨fs,hu,hfs⟩:=hty.str
    obtain⟨f,σ,q1,q2,q3,q4,q5,q6,q7⟩:=hfs.at t hhf
    obtain⟨z,g1,g2,pre,c,post,f1,f2,f3,e1,e2,e3,e4⟩:=q7 (show qm P t w H y _ []from hrep)
    rw[g2]at h
    have ef:f2=[]:=by
     have:=congrArg List.length e2;simp at this;exact List.length_eq_zero_iff.1 (by omega)
    subst ef
    refine⟨_,h,qp hs hC hd (v:=.pointer (some ⟨b,o+f.offset,none⟩)) ⟨qdY t (by simpa[Ty.isFz]using hfz) q4,b,o+f.offset,blk,rfl,hH,?_⟩ (λw' _=>by simp[execOp,hv,qds hu q1 q3])⟩
    have:=qkd (m:=σ.size) e1 (k:=f.offset) (by rw[e3];omega) (qm.length σ e4)
    rw[this]
    exact e4
  ·rename_i id p
   obtain⟨o,y,b,off,h1,h2,h3,h4,hv⟩:=hr
   rw[h1]at h
   simp only[h2,cond_false]at h
   have hyt:=jD _ h3
   rw[hyt]at h
   simp only at h
   cases ht:decide (y.1.fz = .str t') && !(qbF t' i).isEmpty with
   |false=>rw[ht]at h;cases h
   |true=>
    rw[ht,cond_true]at h
    rw[Bool.and_eq_true]at ht
    obtain⟨ht,hne⟩:=ht
    have ht:=of_decide_eq_true ht
    obtain⟨σ0,y0⟩:=y
    simp only at ht hyt
    cases σ0 with
    |str u=>
     injection ht with ht
     subst ht
     obtain⟨fs,hu,hfs⟩:=(qN.unfz (τ:=.str u) hty).str
     have hhf':qaD u i=true:=by rw[<-(qiV u i).2];exact hhf
     rw[(qiV u i).1]at hne h
     obtain⟨f,σ,q1,q2,q3,q4,q5,q6,q7⟩:=hfs.at u hhf'
     have hok:=(hs.os id o h1).1
     obtain⟨_,_,_,blk',t',pre',c,post',f1,f',f2,e1,e2,e3,e4,e5,e6,_⟩:=hok.desc (y:=y0) h3 ⟨w,_,_,h4⟩ h2
     obtain⟨z,g1,_⟩:=q7 (show qm P u w H y0 c f' from e6)
     have hstr:qP (.str u) y0 (qbF u i)=some ⟨σ,z⟩:=by
      cases hpp:qbF u i with
      |nil=>rw[hpp]at hne;cases hne
      |cons a l=>rw[hpp]at g1;exact g1
     have happ:qP o.τ o.x (p++qbF u i)=some ⟨σ,z⟩:=by
      rw[qaH _ h3];exact hstr
     have hloc:jS w o (Φ id) (p++qbF u i) b (off+f.offset):=by
      refine h4.append hyt ?_
      have:=q6 w b off
      rw[Nat.sub_zero]at this
      cases hpp:qbF u i with
      |nil=>rw[hpp]at hne;cases hne
      |cons a l=>rw[hpp]at this;exact this
     refine⟨_,h,qp hs hC hd (v:=.pointer (some ⟨b,off+f.offset,none⟩)) ⟨o,⟨σ,z⟩,b,off+f.offset,h1,?_,happ,hloc,rfl⟩ (λw' _=>by simp[execOp,hv,qds hu q1 q3])⟩
     cases hpp:qbF u i with
     |nil=>rw[hpp]at hne;cases hne
     |cons a l=>simp
    |_=>cases ht
  ·cases h
theorem qaX{w:World}{H:FH}{Φ:Nat->qB}{os:Nat->Option Obj}{id:Nat}{p:List qq}{v:Value}(h:qh P C w H Φ os (.view id p) v){o:Obj}(ho:os id=some o)(hok:qK P w H o (Φ id)){y}(hy:qP o.τ o.x p=some y):
  ∃cs fp,v=jZ y.1 cs/\qm P y.1 w H y.2 cs fp/\(∀b∈fp,b∈(Φ id).fp)/\fp.Nodup:=by
 obtain⟨o',y',h1,h2,h3⟩:=h
 rw[ho]at h1
 cases h1
 rw[hy]at h2
 cases h2
 cases hr:o.row&&p.isEmpty with
 |true=>
  rw[hr]at h3
  simp only[Bool.and_eq_true,List.isEmpty_iff]at hr
  obtain⟨hrow,rfl⟩:=hr
  rw[qH]at hy
  cases hy
  obtain⟨_,hnd,h5⟩:=hok
  rw[hrow]at h5
  obtain⟨_,cs,hcs,h6⟩:=h5
  refine⟨cs,(Φ id).fp,?_,h6,λ_ h=>h,hnd⟩
  simp only at h3
  rw[h3]
  exact hcs
 |false=>
  rw[hr]at h3
  obtain⟨b,off,blk,t,h4,h5,h6⟩:=h3
  have hnd:=hok.2.1
  obtain⟨b',o',hl,blk',t',pre',c,post',f1,f,f2,e1,e2,e3,e4,e5,e6,_⟩:=hok.desc (y:=y.2) hy ⟨w,_,_,h4⟩ hr
  obtain⟨rfl,rfl⟩:=jS.det h4 (hl w (λ_ _=>rfl))
  rw[e1]at h5
  cases h5
  refine⟨c,f,?_,e6,λb hb=>by rw[e4];simp[hb],?_⟩
  ·rw[h6,<-e3,qU e2 (qm.length _ e6)]
  ·rw[e4]at hnd
   exact(List.nodup_append.1 (List.nodup_append.1 hnd).1).2.1
theorem qjE(hs:qg P C s a w H Φ){id:Nat}{p:List qq}{v:Value}(hr:qh P C w H Φ s.obj (.view id p) v){R:Type}{k:Option R}{r:R}(h:qkm s id p k=some r):
  ∃g,v = .pointer (some ⟨g,0,none⟩)/\qh P C w H Φ s.obj (.ptr id (p++[.I 0])) v/\k=some r:=by
 unfold qkm at h
 split at h
 case h_2=>cases h
 rename_i o ho
 rw[jJ]at h
 obtain⟨⟨σ,y⟩,hy,h⟩:=Option.bind_eq_some_iff.1 h
 simp only at h
 split at h
 case h_2=>cases h
 rename_i t y'
 rw[qi]at h
 obtain⟨z,rfl,h⟩:=Option.bind_eq_some_iff.1 h
 have hok:=(hs.os id o ho).1
 obtain⟨o',y2,q1,q2,q3⟩:=hr
 rw[ho]at q1
 cases q1
 rw[hy]at q2
 cases q2
 cases hrp:o.row&&p.isEmpty with
 |true=>
  exfalso
  simp only[Bool.and_eq_true,List.isEmpty_iff]at hrp
  obtain⟨hrow,rfl⟩:=hrp
  rw[qH]at hy
  obtain⟨_,_,h3⟩:=hok
  rw[hrow]at h3
  obtain⟨row,τ,ox⟩:=o
  simp only[Option.some.injEq,Sigma.mk.injEq]at hy
  obtain⟨rfl,_⟩:=hy
  cases h3.1
 |false=>
  rw[hrp]at q3
  obtain⟨b,off,blk,tt,h4,h5,h6⟩:=q3
  obtain⟨b',o',hl,blk',t',pre',c,post',f1,f,f2,e1,e2,e3,e4,e5,e6,_⟩:=hok.desc (σ:=.op t) (y:=(some z:Option t.den)) hy ⟨w,_,_,h4⟩ hrp
  obtain⟨rfl,rfl⟩:=jS.det h4 (hl w (λ_ _=>rfl))
  rw[e1]at h5
  cases h5
  obtain⟨g,gblk,gt,fp',rfl,rfl,hg,hr0⟩:=e6
  have hsg:seg blk off (Ty.op t).size=[.pointer (some ⟨g,0,none⟩)]:=by rw[<-e3];exact qU e2 rfl
  have hv:v = .pointer (some ⟨g,0,none⟩):=by rw[h6];simp only[hsg];rfl
  refine⟨g,hv,⟨o,⟨t,z⟩,g,0,ho,by simp,?_,?_,hv⟩,h⟩
  ·rw[qaH _ hy]
   simp only[qP,Option.bind_some]
   exact qH _ _
  ·refine jS.append h4 (jD _ hy) ⟨g,?_,j6 _ _ _ _⟩
   rw[qy e1,<-Array.getElem?_toList,e2,<-e3]
   simp
theorem qlo(hcfg:qu P cfg)(hC:qz C cfg){x:Operand}(hs:qg P C s a w H Φ)(hd:qF cfg.nt dst=true)(h:qG cfg ⟨dst,.nilCheck x,ty,pos,after,guard⟩ s k=some r):
  ∃s',k s'=some r/\qah P C ⟨dst,.nilCheck x,ty,pos,after,guard⟩ a w s':=by
 simp only[qG]at h
 split at h
 ·rename_i τ o he
  rw[qi]at h
  obtain⟨y,rfl,h⟩:=Option.bind_eq_some_iff.1 h
  obtain⟨h1,cs,h2,h3,b,off,blk,h4,h5,h6⟩:=qk hs (hcfg.fz ty) he
  have hv:a.eval x = .pointer (some ⟨b,off,none⟩):=by rw[h2,h4];rfl
  exact⟨_,h,qp hs hC hd (av:=.ref τ y) (v:=a.eval x) ⟨h1,b,off,blk,hv,h5,h6⟩ (λw' _=>by simp[execOp,hv])⟩
 ·rename_i τ y he
  have hr:=qk hs (hcfg.fz ty) he
  obtain⟨_,b,off,blk,hv,_⟩:=hr
  exact⟨_,h,qp hs hC hd (qk hs (hcfg.fz ty) he) (λw' _=>by simp[execOp,hv])⟩
 ·rename_i i p he
  obtain⟨o,y,b,off,_,_,_,_,hv⟩:=qk hs (hcfg.fz ty) he
  exact⟨_,h,qp hs hC hd (qk hs (hcfg.fz ty) he) (λw' _=>by simp[execOp,hv])⟩
 ·rename_i i p he
  obtain⟨g,hv,hr,h⟩:=qjE hs (qk hs (hcfg.fz ty) he) h
  exact⟨_,h,qp hs hC hd (v:=a.eval x) hr (λw' _=>by simp[execOp,hv])⟩
 ·cases h
theorem qby{t tid:TypeId}{e:Ty}(hu:P.underlying t=some (.slice tid))(he:qN P tid e){b o n cap:Nat}{i:Int}{ik:IntKind}(h0:0<=i)(hn:i<n)(w:World):
  (Instr.indexAt t (.slice (some ⟨b,o,none⟩) n cap) (.int ik i)).run P w = .ok (.pointer (some ⟨b,o+i.toNat*e.size,none⟩)) w:=by
 obtain⟨j,h1,h2,_⟩:=he.info
 simp[Instr.indexAt,asIntOf,run_underlying hu,h0,hn,Go.sizeOf,typeInfo,h1,h2,Addr.add_none]
theorem qcK{t tid:TypeId}{e:Ty}{m:Nat}(hu:P.underlying t=some (.array m tid))(he:qN P tid e){b o:Nat}{i:Int}{ik:IntKind}(h0:0<=i)(hn:i<m)(w:World):
  (Instr.indexAt t (.pointer (some ⟨b,o,none⟩)) (.int ik i)).run P w = .ok (.pointer (some ⟨b,o+i.toNat*e.size,none⟩)) w:=by
 obtain⟨j,h1,h2,_⟩:=he.info
 simp[Instr.indexAt,asIntOf,Instr.sureAddr,run_underlying hu,h0,hn,Go.sizeOf,typeInfo,h1,h2,Addr.add_none]
theorem qeG{av:AV}{n:Int}(h:intOf av=some n){v:Value}(hr:qh P C w H Φ s.obj av v):∃k,v = .int k n:=by
 unfold intOf at h
 split at h
 ·cases h;exact⟨_,hr.int⟩
 ·cases h
theorem qbL{α R:Type}{l:List α}{i:Int}{k:α->Option R}{r:R}(h:qs l i k=some r):0<=i/\∃x,l[i.toNat]? = some x/\k x=some r:=by
 rw[qgk]at h
 split at h
 ·obtain⟨x,h1,h2⟩:=Option.bind_eq_some_iff.1 h
  exact⟨‹_›,x,h1,h2⟩
 ·cases h
theorem qiI{R:Type}{i:Int}{n:Nat}{k:Option R}{r:R}(h:inR i n k=some r):0<=i/\i<n/\k=some r:=by
 unfold inR at h
 split at h
 ·exact⟨by omega,by omega,h⟩
 ·cases h
theorem qkr(hcfg:qu P cfg)(hC:qz C cfg){T:TypeId}{x ix:Operand}(hs:qg P C s a w H Φ)(hd:qF cfg.nt dst=true)(h:qG cfg ⟨dst,.indexAddr T x ix,ty,pos,after,guard⟩ s k=some r):
  ∃s',k s'=some r/\qah P C ⟨dst,.indexAddr T x ix,ty,pos,after,guard⟩ a w s':=by
 simp only[qG]at h
 split at h
 case h_2=>cases h
 rename_i av i he hi
 have hr:=qk hs qv he
 obtain⟨iav,hi1,hi2⟩:=Option.bind_eq_some_iff.1 hi
 obtain⟨ik,hiv⟩:=qeG hi2 (qk hs qv hi1)
 unfold qfL at h
 split at h
 ·rename_i own tid e l
  cases hT:decide (lk cfg.ty T=some (.list false tid e.fz))with
  |false=>rw[hT]at h;cases h
  |true=>
   rw[hT,cond_true]at h
   obtain⟨hty,_⟩:=hcfg.ty T _ (of_decide_eq_true hT)
   replace h:=qbL h
   obtain⟨h0,y,hy,h⟩:=h
   obtain⟨hf,cs,hv,hrep⟩:=hr
   simp only[Ty.isFz,Bool.and_eq_true,Bool.not_eq_true']at hf
   obtain⟨rfl,hef⟩:=hf
   rw[Ty.fz_of_isFz e hef]at hty
   obtain⟨_,ad,cap,rfl,hcap,hl⟩:=hrep
   have hlt:=(List.getElem?_eq_some_iff.1 hy).1
   rcases hl with rfl|⟨b,o,blk,rfl,hH,hch⟩
   ·simp at hlt
   ·obtain⟨pre,c,post,f1,f,f2,e1,e2,e3,e4,e5⟩:=hch.at hy
    have ef:f=[]:=by have:=congrArg List.length e2;simp at this;exact List.length_eq_zero_iff.1 (by omega)
    subst ef
    have hpl:pre.length=i.toNat*e.size:=by
     rw[qe.length (n:=e.size) (λ_ _ _ hh=>qm.length e hh) e3,List.length_take,Nat.min_eq_left (Nat.le_of_lt hlt)]
    have hv':a.eval x = .slice (some ⟨b,o,none⟩) (List.length l) cap:=by rw[hv];rfl
    refine⟨_,h,qp hs hC hd (v:=.pointer (some ⟨b,o+i.toNat*e.size,none⟩)) ⟨hef,b,_,blk,rfl,hH,?_⟩ (λw' _=>by
     simp[execOp,hv',hiv,qby hty.list.1 hty.list.2 h0 (show i<(List.length l:Int) by omega)])⟩
    rw[qkd (m:=e.size) e1 hpl (qm.length e e4)]
    exact e4
 ·rename_i n e l
  cases hT:decide (lk cfg.ty T=some (.arr n e))with
  |false=>rw[hT]at h;cases h
  |true=>
   rw[hT,cond_true]at h
   obtain⟨hty,hfz⟩:=hcfg.ty T _ (of_decide_eq_true hT)
   obtain⟨u,hu,hue⟩:=hty.arr
   obtain⟨h0,y,hy,h⟩:=qbL h
   obtain⟨hf,b,o,blk,hv,hH,hln,hch⟩:=hr
   have hlt:=(List.getElem?_eq_some_iff.1 hy).1
   obtain⟨pre,c,post,f1,f,f2,e1,e2,e3,e4,e5⟩:=hch.at hy
   have ef:f=[]:=by have:=congrArg List.length e2;simp at this;exact List.length_eq_zero_iff.1 (by omega)
   subst ef
   have hpl:pre.length=i.toNat*e.size:=by
    rw[qe.length (n:=e.size) (λ_ _ _ hh=>qm.length e hh) e3,List.length_take,Nat.min_eq_left (Nat.le_of_lt hlt)]
   refine⟨_,h,qp hs hC hd (v:=.pointer (some ⟨b,o+i.toNat*e.size,none⟩)) ⟨by simpa[Ty.isFz]using hfz,b,_,blk,rfl,hH,?_⟩ (λw' _=>by
    simp[execOp,hv,hiv,qcK hu hue h0 (show i<(n:Int) by rw[<-hln];omega)])⟩
   rw[qkd (m:=e.size) e1 hpl (qm.length e e4)]
   exact e4
 ·rename_i id p
  split at h
  case h_2=>cases h
  rename_i o ho
  rw[jJ]at h
  obtain⟨y,hy,h⟩:=Option.bind_eq_some_iff.1 h
  obtain⟨σ,y⟩:=y
  simp only at h
  split at h
  case h_2=>cases h
  rename_i own tid e l
  cases hT:own&&(decide (lk cfg.ty T=some (.list false tid e.fz)))with
  |false=>rw[hT]at h;cases h
  |true=>
   rw[hT,cond_true]at h
   rw[Bool.and_eq_true]at hT
   obtain⟨rfl,hT⟩:=hT
   obtain⟨hty,_⟩:=hcfg.ty T _ (of_decide_eq_true hT)
   have hty':=qN.unfz (τ:=.list false tid e) hty
   obtain⟨h0,hlt,h⟩:=qiI h
   have hok:=(hs.os id o ho).1
   have hlt':i.toNat<List.length l:=by omega
   have happ:∃z,qP o.τ o.x (p++[.I i])=some ⟨e,z⟩:=by
    refine⟨l[i.toNat],?_⟩
    rw[qaH _ hy]
    simp only[qP,if_pos h0,List.getElem?_eq_getElem hlt',Option.bind_some,qH]
   obtain⟨z,happ⟩:=happ
   have hloc:∃g n cap,a.eval x = .slice (some ⟨g,0,none⟩) n cap/\i<n/\jS w o (Φ id) (p++[.I i]) g (i.toNat*e.size):=by
    obtain⟨o',y',h1,h2,h3⟩:=hr
    rw[ho]at h1
    cases h1
    cases hrp:o.row&&p.isEmpty with
    |true=>
     rw[hrp]at h3
     simp only[Bool.and_eq_true,List.isEmpty_iff]at hrp
     obtain⟨hrow,rfl⟩:=hrp
     rw[qH]at hy
     obtain⟨row,τ,xo⟩:=o
     simp only at hrow
     subst hrow
     simp only[Option.some.injEq,Sigma.mk.injEq]at hy
     obtain⟨rfl,hxl⟩:=hy
     simp only[heq_eq_eq]at hxl
     subst hxl
     obtain⟨hdr,xs,fp',q1,q2,q3,q4⟩:=hok.row_list
     have hh:(Φ id).hdr=hdr:=by simpa using q1
     rcases q3.2 with⟨rfl,hz⟩|⟨g,cap,cur,rfl,_⟩
     ·have hz':List.length xo=0:=hz
      omega
     ·simp only at h3
      exact⟨g,List.length xo,cap,by rw[h3,hh],hlt,⟨g,List.length xo,cap,hh,j6 _ _ _ _⟩⟩
    |false=>
     rw[hrp]at h3
     rw[hy]at h2
     cases h2
     obtain⟨b,off,blk,t,h4,h5,h6⟩:=h3
     obtain⟨b',o',hl,blk',t',pre',c,post',f1,f,f2,e1,e2,e3,e4,e5,e6,_⟩:=hok.desc (y:=l) hy ⟨w,_,_,h4⟩ hrp
     obtain⟨rfl,rfl⟩:=jS.det h4 (hl w (λ_ _=>rfl))
     rw[e1]at h5
     cases h5
     obtain⟨hdr,xs,fp',rfl,q2,q3,q4⟩:=e6
     rcases q3.2 with⟨rfl,hz⟩|⟨g,cap,cur,rfl,_⟩
     ·omega
     ·refine⟨g,List.length l,cap,?_,hlt,h4.append (jD _ hy) ⟨g,List.length l,cap,?_,j6 _ _ _ _⟩⟩
      ·rw[h6,<-e3];exact congrArg (jZ (.list true tid e)) (qU (n:=1) e2 rfl)
      ·rw[qy e1,<-Array.getElem?_toList,e2,<-e3];simp
   obtain⟨g,n,cap,hv,hin,hloc⟩:=hloc
   refine⟨_,h,qp hs hC hd (v:=.pointer (some ⟨g,0+i.toNat*e.size,none⟩)) ⟨o,⟨e,z⟩,g,i.toNat*e.size,ho,by simp,happ,hloc,by simp⟩ (λw' _=>by
    simp[execOp,hv,hiv,qby hty'.list.1 hty'.list.2 h0 hin])⟩
 ·rename_i id p
  obtain⟨o,y,b,off,h1,h2,h3,h4,hv⟩:=hr
  rw[h1]at h
  simp only[h2,cond_false]at h
  have hyt:=jD _ h3
  rw[hyt]at h
  obtain⟨σ,y⟩:=y
  simp only at h hyt
  split at h
  case h_2=>cases h
  rename_i n e he'
  cases he'
  cases hT:decide (lk cfg.ty T=some (.arr n e.fz))with
  |false=>rw[hT]at h;cases h
  |true=>
   rw[hT,cond_true]at h
   obtain⟨hty,_⟩:=hcfg.ty T _ (of_decide_eq_true hT)
   obtain⟨u,hu,hue⟩:=(qN.unfz (τ:=.arr n e) hty).arr
   obtain⟨h0,hlt,h⟩:=qiI h
   have hok:=(hs.os id o h1).1
   obtain⟨_,_,_,blk',t',pre',c,post',f1,f',f2,e1,e2,e3,e4,e5,e6,_⟩:=hok.desc (y:=y) h3 ⟨w,_,_,h4⟩ h2
   have hlt':i.toNat<List.length y:=by rw[e6.1];omega
   have happ:qP o.τ o.x (p++[.I i])=some ⟨e,y[i.toNat]⟩:=by
    rw[qaH _ h3]
    simp only[qP,if_pos h0,List.getElem?_eq_getElem hlt',Option.bind_some,qH]
   refine⟨_,h,qp hs hC hd (v:=.pointer (some ⟨b,off+i.toNat*e.size,none⟩)) ⟨o,⟨e,y[i.toNat]⟩,b,off+i.toNat*e.size,h1,by simp,happ,h4.append hyt (j6 _ _ _ _),rfl⟩ (λw' _=>by
    simp[execOp,hv,hiv,qcK hu hue h0 hlt])⟩
 ·cases h
end
section
variable {P:Program}
theorem jO.away:(τ:Ty)->∀{w:World} {H:FH} {x:τ.den} {cs:List Value} {fp:List Nat} {b:Nat} {blk:Array Value} {t:TypeId} {pre post:List Value} {p:List qq} {b1 o1:Nat} {y:Σ σ:Ty,σ.den},qP τ x p=some y->qm P τ w H x cs fp->w.heap[b]? = some (.cells blk t (0,0))->blk.toList=pre++cs++post->jO w τ b pre.length p b1 o1->
  (b1=b/\pre.length<=o1/\o1+y.1.size<=pre.length+τ.size)\/b1∈fp
 |.pair u v,w,H,x,cs,fp,b,blk,t,pre,post,p,b1,o1,y,hg,h,hb,hblk,hl=>by
  match p with
  |[]=>cases hg;exact .inl ⟨hl.1,by have:=hl.2;omega,by have:=hl.2;simp only;omega⟩
  |.I _::_=>cases hg
  |.L::q=>
   obtain⟨c1,c2,g1,g2,rfl,rfl,h1,h2⟩:=h
   rcases jO.away u (p:=q) (pre:=pre) (post:=c2++post) hg h1 hb (by rw[hblk];simp) hl with⟨k1,k2,k3⟩|k
   ·exact .inl ⟨k1,k2,by simp only[Ty.size];omega⟩
   ·exact .inr (List.mem_append_left _ k)
  |.R::q=>
   obtain⟨c1,c2,g1,g2,rfl,rfl,h1,h2⟩:=h
   have hc1:=qm.length u h1
   have hl':jO w v b (pre++c1).length q b1 o1:=by rw[List.length_append,hc1];exact hl
   rcases jO.away v (p:=q) (pre:=pre++c1) (post:=post) hg h2 hb (by rw[hblk];simp) hl' with⟨k1,k2,k3⟩|k
   ·rw[List.length_append,hc1]at k2 k3
    exact .inl ⟨k1,by omega,by simp only[Ty.size];omega⟩
   ·exact .inr (List.mem_append_right _ k)
 |.str s,w,H,x,cs,fp,b,blk,t,pre,post,p,b1,o1,y,hg,h,hb,hblk,hl=>by
  match p with
  |[]=>cases hg;exact .inl ⟨hl.1,by have:=hl.2;omega,by have:=hl.2;simp only;omega⟩
  |a::q=>exact jO.away s (p:=a::q) hg h hb hblk hl
 |.list true tid e,w,H,x,cs,fp,b,blk,t,pre,post,p,b1,o1,y,hg,h,hb,hblk,hl=>by
  match p with
  |[]=>cases hg;exact .inl ⟨hl.1,by have:=hl.2;omega,by have:=hl.2;simp only;omega⟩
  |.L::_=>cases hg
  |.R::_=>cases hg
  |.I i::q=>
   obtain⟨g,n,cap,hcell,hloc⟩:=hl
   simp only[qP]at hg
   split at hg
   case isFalse=>cases hg
   obtain⟨z,hz,hg⟩:=Option.bind_eq_some_iff.1 hg
   obtain⟨hdr,xs,fp',rfl,rfl,ho,hch⟩:=h
   rw[qy hb,<-Array.getElem?_toList,hblk]at hcell
   simp only[List.append_assoc,Nat.le_refl,List.getElem?_append_right,Nat.sub_self,List.singleton_append,List.getElem?_cons_zero,Option.some.injEq]at hcell
   subst hcell
   rcases ho.2 with⟨e0,_⟩|⟨gb,cap',cur,e0,hgb0,hgb,hcap,hcm,hsz,htake⟩
   ·cases e0
   ·cases e0
    obtain⟨pre2,c2,post2,g1,gg,g2,rfl,rfl,ht1,h2,ht2⟩:=qe.at hch hz
    have hlen:i.toNat<List.length x:=(List.getElem?_eq_some_iff.1 hz).1
    have hpl:pre2.length=i.toNat*e.size:=by
     rw[qe.length (n:=e.size) (λ_ _ _ hh=>qm.length e hh) ht1,List.length_take,Nat.min_eq_left (Nat.le_of_lt hlen)]
    have hcur:cur.toList=pre2++c2++(post2++cur.toList.drop (List.length x*e.size)):=by
     have e9:=(List.take_append_drop (List.length x*e.size) cur.toList).symm
     rw[htake]at e9
     exact e9.trans (by simp only[List.append_assoc])
    rw[<-hpl]at hloc
    right
    rcases jO.away e (p:=q) hg h2 hgb hcur hloc with⟨k1,_⟩|k
    ·rw[k1]
     simp[Value.ownBlock]
    ·simp[k]
 |.arr n e,w,H,x,cs,fp,b,blk,t,pre,post,p,b1,o1,y,hg,h,hb,hblk,hl=>by
  match p with
  |[]=>cases hg;exact .inl ⟨hl.1,by have:=hl.2;omega,by have:=hl.2;simp only;omega⟩
  |.L::_=>cases hg
  |.R::_=>cases hg
  |.I i::q=>
   simp only[qP]at hg
   split at hg
   case isFalse=>cases hg
   obtain⟨z,hz,hg⟩:=Option.bind_eq_some_iff.1 hg
   obtain⟨hln,hch⟩:=h
   obtain⟨pre2,c2,post2,g1,g,g2,rfl,rfl,ht1,h2,ht2⟩:=qe.at hch hz
   have hlen:i.toNat<List.length x:=(List.getElem?_eq_some_iff.1 hz).1
   have hpl:pre2.length=i.toNat*e.size:=by
    rw[qe.length (n:=e.size) (λ_ _ _ hh=>qm.length e hh) ht1,List.length_take,Nat.min_eq_left (Nat.le_of_lt hlen)]
   have hl':jO w e b (pre++pre2).length q b1 o1:=by rw[List.length_append,hpl];exact hl
   have hmul:i.toNat*e.size+e.size<=n*e.size:=by
    rw[<-Nat.succ_mul]
    exact Nat.mul_le_mul_right _ (by omega)
   rcases jO.away e (p:=q) (pre:=pre++pre2) (post:=post2++post) hg h2 hb (by rw[hblk];simp) hl' with⟨k1,k2,k3⟩|k
   ·rw[List.length_append,hpl]at k2 k3
    exact .inl ⟨k1,by omega,by simp only[Ty.size];omega⟩
   ·exact .inr (by simp[k])
 |.op s,w,H,x,cs,fp,b,blk,t,pre,post,p,b1,o1,y,hg,h,hb,hblk,hl=>by
  match p with
  |[]=>cases hg;exact .inl ⟨hl.1,by have:=hl.2;omega,by have:=hl.2;simp only;omega⟩
  |.L::_=>cases hg
  |.R::_=>cases hg
  |.I i::q=>
   obtain⟨g,hcell,hloc⟩:=hl
   simp only[qP]at hg
   obtain⟨z,rfl,hg⟩:=Option.bind_eq_some_iff.1 hg
   obtain⟨gb,gblk,gt,fp',rfl,rfl,hgb,hr0⟩:=h
   rw[qy hb,<-Array.getElem?_toList,hblk]at hcell
   simp only[List.append_assoc,Nat.le_refl,List.getElem?_append_right,Nat.sub_self,List.singleton_append,List.getElem?_cons_zero,Option.some.injEq]at hcell
   cases hcell
   right
   rcases jO.away s (p:=q) (pre:=[]) (post:=[]) hg hr0 hgb (by simp) hloc with⟨k1,_⟩|k
   ·rw[k1];simp
   ·simp[k]
 |.int _,_,_,_,_,_,_,_,_,_,_,p,_,_,_,hg,_,_,_,hl=>by obtain⟨rfl,h1,h2⟩:=hl;cases hg;exact .inl ⟨h1,by omega,by simp only;omega⟩
 |.bool,_,_,_,_,_,_,_,_,_,_,p,_,_,_,hg,_,_,_,hl=>by obtain⟨rfl,h1,h2⟩:=hl;cases hg;exact .inl ⟨h1,by omega,by simp only;omega⟩
 |.list false _ _,_,_,_,_,_,_,_,_,_,_,p,_,_,_,hg,_,_,_,hl=>by obtain⟨rfl,h1,h2⟩:=hl;cases hg;exact .inl ⟨h1,by omega,by simp only;omega⟩
 |.ptr _,_,_,_,_,_,_,_,_,_,_,p,_,_,_,hg,_,_,_,hl=>by obtain⟨rfl,h1,h2⟩:=hl;cases hg;exact .inl ⟨h1,by omega,by simp only;omega⟩
 |.fn _ _,_,_,_,_,_,_,_,_,_,_,p,_,_,_,hg,_,_,_,hl=>by obtain⟨rfl,h1,h2⟩:=hl;cases hg;exact .inl ⟨h1,by omega,by simp only;omega⟩
 |.fn2 _ _ _,_,_,_,_,_,_,_,_,_,_,p,_,_,_,hg,_,_,_,hl=>by obtain⟨rfl,h1,h2⟩:=hl;cases hg;exact .inl ⟨h1,by omega,by simp only;omega⟩
 |.ext _ _ _ _,_,_,_,_,_,_,_,_,_,_,p,_,_,_,hg,_,_,_,hl=>by obtain⟨rfl,h1,h2⟩:=hl;cases hg;exact .inl ⟨h1,by omega,by simp only;omega⟩
end
theorem row_away{P:Program}{tid:Nat}{e:Ty}{w:World}{H:FH}{x:List e.den}{hdr:Value}{fp:List Nat}{b off:Nat}{i:Int}{q:List qq}{b1 o1:Nat}{y:Σ σ:Ty,σ.den}
  (hg:qP (.list true tid e) x (.I i::q)=some y) (h:qm P (.list true tid e) w H x [hdr] fp) (hc:w.cell? ⟨b,off,none⟩=some hdr) (hl:jO w (.list true tid e) b off (.I i::q) b1 o1):b1∈fp:=by
 obtain⟨g,n,cap,hcell,hloc⟩:=hl
 simp only[qP]at hg
 split at hg
 case isFalse=>cases hg
 obtain⟨z,hz,hg⟩:=Option.bind_eq_some_iff.1 hg
 obtain⟨hdr',xs,fp',e1,rfl,ho,hch⟩:=h
 obtain rfl:hdr=hdr':=by simpa using e1
 rw[hc]at hcell
 cases hcell
 rcases ho.2 with⟨e0,_⟩|⟨gb,cap',cur,e0,hgb0,hgb,hcap,hcm,hsz,htake⟩
 ·cases e0
 ·cases e0
  obtain⟨pre2,c2,post2,g1,gg,g2,rfl,rfl,ht1,h2,ht2⟩:=qe.at hch hz
  have hlen:i.toNat<List.length x:=(List.getElem?_eq_some_iff.1 hz).1
  have hpl:pre2.length=i.toNat*e.size:=by
   rw[qe.length (n:=e.size) (λ_ _ _ hh=>qm.length e hh) ht1,List.length_take,Nat.min_eq_left (Nat.le_of_lt hlen)]
  have hcur:cur.toList=pre2++c2++(post2++cur.toList.drop (List.length x*e.size)):=by
   have e9:=(List.take_append_drop (List.length x*e.size) cur.toList).symm
   rw[htake]at e9
   exact e9.trans (by simp only[List.append_assoc])
  rw[<-hpl]at hloc
  rcases jO.away e (p:=q) hg h2 hgb hcur hloc with⟨k1,_⟩|k
  ·rw[k1]
   simp[Value.ownBlock]
  ·simp[k]
theorem qk6:∀τ:Ty,thru τ []=false
 |.pair _ _=>rfl
 |.str t=>qk6 t
 |.list true _ _=>rfl
 |.list false _ _=>rfl
 |.arr _ _=>rfl
 |.int _=>rfl
 |.bool=>rfl
 |.ptr _=>rfl
 |.op _=>rfl
 |.fn _ _=>rfl
 |.fn2 _ _ _=>rfl
 |.ext _ _ _ _=>rfl
theorem qhE{P:Program}:(τ:Ty)->∀{w:World} {H:FH} {x:τ.den} {cs:List Value} {fp:List Nat} {b:Nat} {blk:Array Value} {t:TypeId} {pre post:List Value} {p:List qq} {b1 o1:Nat} {y:Σ σ:Ty,σ.den},thru τ p=true->qP τ x p=some y->qm P τ w H x cs fp->w.heap[b]? = some (.cells blk t (0,0))->blk.toList=pre++cs++post->
  jO w τ b pre.length p b1 o1->b1∈fp
 |.pair u v,w,H,x,cs,fp,b,blk,t,pre,post,p,b1,o1,y,hd,hg,h,hb,hblk,h1=>by
  obtain⟨c1,c2,g1,g2,rfl,rfl,r1,r2⟩:=h
  have hc1:=qm.length u r1
  match p with
  |.L::p=>exact List.mem_append_left _ (qhE u (p:=p) (pre:=pre) (post:=c2++post) hd hg r1 hb (by rw[hblk];simp) h1)
  |.R::p=>
   have h1':jO w v b (pre++c1).length p b1 o1:=by rw[List.length_append,hc1];exact h1
   exact List.mem_append_right _ (qhE v (p:=p) (pre:=pre++c1) (post:=post) hd hg r2 hb (by rw[hblk];simp) h1')
  |[]=>simp[thru]at hd
  |.I _::_=>simp[thru]at hd
 |.str s,w,H,x,cs,fp,b,blk,t,pre,post,p,b1,o1,y,hd,hg,h,hb,hblk,h1=>by
  have hd:thru s p=true:=hd
  match p with
  |a::p=>exact qhE s (p:=a::p) hd hg h hb hblk h1
  |[]=>rw[qk6]at hd;cases hd
 |.list true tid e,w,H,x,cs,fp,b,blk,t,pre,post,p,b1,o1,y,hd,hg,h,hb,hblk,h1=>by
  match p with
  |.I i::p=>
   obtain⟨hdr,xs,fp',rfl,k⟩:=h
   have hcell:w.cell? ⟨b,pre.length,none⟩=some hdr:=by
    rw[qy hb,<-Array.getElem?_toList,hblk]
    simp
   exact row_away hg ⟨hdr,xs,fp',rfl,k⟩ hcell h1
  |[]=>simp[thru]at hd
  |.L::_=>simp[thru]at hd
  |.R::_=>simp[thru]at hd
 |.op s,w,H,x,cs,fp,b,blk,t,pre,post,p,b1,o1,y,hd,hg,h,hb,hblk,h1=>by
  match p with
  |.I i::p=>
   rcases jO.away (.op s) (p:=.I i::p) hg h hb hblk h1 with⟨k1,_⟩|k
   ·obtain⟨g,hcell,hloc⟩:=h1
    simp only[qP]at hg
    obtain⟨z,rfl,hg⟩:=Option.bind_eq_some_iff.1 hg
    obtain⟨gb,gblk,gt,fp',rfl,rfl,hgb,hr0⟩:=h
    rw[qy hb,<-Array.getElem?_toList,hblk]at hcell
    simp only[List.append_assoc,Nat.le_refl,List.getElem?_append_right,Nat.sub_self,List.singleton_append,List.getElem?_cons_zero,Option.some.injEq]at hcell
    cases hcell
    rcases jO.away s (p:=p) (pre:=[]) (post:=[]) hg hr0 hgb (by simp) hloc with⟨k1,_⟩|k
    ·rw[k1];simp
    ·simp[k]
   ·exact k
  |[]=>simp[thru]at hd
  |.L::_=>simp[thru]at hd
  |.R::_=>simp[thru]at hd
 |.list false _ _,_,_,_,_,_,_,_,_,_,_,_,_,_,_,hd,_,_,_,_,_=>by simp[thru]at hd
 |.arr _ _,_,_,_,_,_,_,_,_,_,_,_,_,_,_,hd,_,_,_,_,_=>by simp[thru]at hd
 |.int _,_,_,_,_,_,_,_,_,_,_,_,_,_,_,hd,_,_,_,_,_=>by simp[thru]at hd
 |.bool,_,_,_,_,_,_,_,_,_,_,_,_,_,_,hd,_,_,_,_,_=>by simp[thru]at hd
 |.ptr _,_,_,_,_,_,_,_,_,_,_,_,_,_,_,hd,_,_,_,_,_=>by simp[thru]at hd
 |.fn _ _,_,_,_,_,_,_,_,_,_,_,_,_,_,_,hd,_,_,_,_,_=>by simp[thru]at hd
 |.fn2 _ _ _,_,_,_,_,_,_,_,_,_,_,_,_,_,_,hd,_,_,_,_,_=>by simp[thru]at hd
 |.ext _ _ _ _,_,_,_,_,_,_,_,_,_,_,_,_,_,_,hd,_,_,_,_,_=>by simp[thru]at hd
theorem qc9:(τ:Ty)->∀{p:List qq},qaF τ p []=true->thru τ p=true
 |.pair _ _,p,h=>by
  match p with
  |[]=>exact h
  |.L::_=>exact h
  |.R::_=>exact h
  |.I _::_=>exact h
 |.str t,p,h=>qc9 t h
 |.list true _ _,p,h=>by
  match p with
  |[]=>cases h
  |.L::_=>cases h
  |.R::_=>cases h
  |.I _::_=>rfl
 |.op _,p,h=>by
  match p with
  |[]=>cases h
  |.L::_=>cases h
  |.R::_=>cases h
  |.I _::_=>rfl
 |.arr _ _,p,h=>by
  match p with
  |[]=>cases h
  |.L::_=>cases h
  |.R::_=>cases h
  |.I _::_=>cases h
 |.list false _ _,_,h=>by cases h
 |.int _,_,h=>by cases h
 |.bool,_,h=>by cases h
 |.ptr _,_,h=>by cases h
 |.fn _ _,_,h=>by cases h
 |.fn2 _ _ _,_,h=>by cases h
 |.ext _ _ _ _,_,h=>by cases h
theorem qbo:(τ:Ty)->∀{p q:List qq},qaF τ p q=true->qa9 p q=true
 |.pair a b,p,q,h=>by
  match p,q with
  |_,[]=>simp[qa9]
  |[],_::_=>cases h
  |.L::p,.L::q=>exact qbo a (p:=p) (q:=q) h
  |.R::p,.R::q=>exact qbo b (p:=p) (q:=q) h
  |.L::_,.R::_=>rfl
  |.R::_,.L::_=>rfl
  |.I _::_,_::_=>cases h
  |.L::_,.I _::_=>cases h
  |.R::_,.I _::_=>cases h
 |.str t,p,q,h=>qbo t (p:=p) (q:=q) h
 |.list true _ e,p,q,h=>by
  match p,q with
  |_,[]=>simp[qa9]
  |.I _::p,.I _::q=>exact qbo e (p:=p) (q:=q) h
  |[],_::_=>cases h
  |.L::_,_::_=>cases h
  |.R::_,_::_=>cases h
  |.I _::_,.L::_=>cases h
  |.I _::_,.R::_=>cases h
 |.op t,p,q,h=>by
  match p,q with
  |_,[]=>simp[qa9]
  |.I _::p,.I _::q=>exact qbo t (p:=p) (q:=q) h
  |[],_::_=>cases h
  |.L::_,_::_=>cases h
  |.R::_,_::_=>cases h
  |.I _::_,.L::_=>cases h
  |.I _::_,.R::_=>cases h
 |.arr _ e,p,q,h=>by
  match p,q with
  |_,[]=>simp[qa9]
  |.I _::p,.I _::q=>exact qbo e (p:=p) (q:=q) h
  |[],_::_=>cases h
  |.L::_,_::_=>cases h
  |.R::_,_::_=>cases h
  |.I _::_,.L::_=>cases h
  |.I _::_,.R::_=>cases h
 |.list false _ _,_,_,h=>by cases h
 |.int _,_,_,h=>by cases h
 |.bool,_,_,h=>by cases h
 |.ptr _,_,_,h=>by cases h
 |.fn _ _,_,_,h=>by cases h
 |.fn2 _ _ _,_,_,h=>by cases h
 |.ext _ _ _ _,_,_,h=>by cases h
theorem qe.at2{α:Type}{R:α->List Value->List Nat->Prop}{n:Nat}(hn:∀x c f,R x c f->c.length=n){l:List α}{xs fp}(h:qe R l xs fp){i j:Nat}{x y:α}(hi:l[i]? = some x)(hj:l[j]? = some y)(hij:i<j):
  ∃p1 ci p2 cj p3 f1 fi f2 fj f3,xs=p1++ci++(p2++cj++p3)/\fp=f1++fi++(f2++fj++f3)/\p1.length=i*n/\(p1++ci++p2).length=j*n/\R x ci fi/\R y cj fj:=by
 obtain⟨p1,ci,post,f1,fi,g,rfl,rfl,h1,h2,h3⟩:=qe.at h hi
 have hil:=(List.getElem?_eq_some_iff.1 hi).1
 have hjl:=(List.getElem?_eq_some_iff.1 hj).1
 have hj':(l.drop (i+1))[j-(i+1)]? = some y:=by
  rw[List.getElem?_drop,<-hj]
  congr 1
  omega
 obtain⟨p2,cj,p3,f2,fj,f3,rfl,rfl,h4,h5,_⟩:=qe.at h3 hj'
 have l1:p1.length=i*n:=by rw[qe.length hn h1,List.length_take,Nat.min_eq_left (Nat.le_of_lt hil)]
 have l2:p2.length=(j-(i+1))*n:=by
  rw[qe.length hn h4,List.length_take,List.length_drop,Nat.min_eq_left (by omega)]
 refine⟨p1,ci,p2,cj,p3,f1,fi,f2,fj,f3,rfl,rfl,l1,?_,h2,h5⟩
 rw[List.length_append,List.length_append,l1,l2,hn _ _ _ h2]
 have:j=i+1+(j-(i+1)):=by omega
 rw[this,Nat.add_mul,Nat.add_mul]
 have e9:i+1+(j-(i+1))-(i+1)=j-(i+1):=by omega
 rw[e9]
 omega
theorem qe.fp_det{α:Type}{R:α->List Value->List Nat->Prop}{n:Nat}(hn:∀x c f,R x c f->c.length=n)(hd:∀x c f f',R x c f->R x c f'->f=f'):∀{l:List α} {xs fp fp'},qe R l xs fp->qe R l xs fp'->fp=fp'
 |[],_,_,_,⟨_,e⟩,⟨_,e'⟩=>by rw[e,e']
 |_::_,_,_,_,⟨c,xs',f,g,e1,e2,h1,h2⟩,⟨c',xs'',f',g',e1',e2',h1',h2'⟩=>by
  obtain⟨rfl,rfl⟩:=List.append_inj (e1.symm.trans e1') ((hn _ _ _ h1).trans (hn _ _ _ h1').symm)
  rw[e2,e2',hd _ _ _ _ h1 h1',qe.fp_det hn hd h2 h2']
theorem qS.fp_det{P:Program}{own:Bool}{i j:Nat}{w:World}{H:FH}:{n:Nat}->{x:qcM n}->{cs:List Value}->{fp fp':List Nat}->qS P own i j w H n x cs fp->qS P own i j w H n x cs fp'->fp=fp'
 |0,x,cs,fp,fp',h,h'=>by
  cases own with
  |false=>rw[qS.fz_fp (n:=0) h,qS.fz_fp (n:=0) h']
  |true=>
   cases x with
   |none=>exact h.2.trans h'.2.symm
   |some kv=>
    obtain⟨b,e,e2,_⟩:=h
    obtain⟨b',e',e2',_⟩:=h'
    rw[e]at e'
    cases e'
    exact e2.trans e2'.symm
 |1,x,cs,fp,fp',h,h'=>by
  cases own with
  |false=>exact h.1.trans h'.1.symm
  |true=>
   cases x with
   |none=>exact h.2.trans h'.2.symm
   |some kv=>
    obtain⟨b,e,e2,_⟩:=h
    obtain⟨b',e',e2',_⟩:=h'
    rw[e]at e'
    cases e'
    exact e2.trans e2'.symm
 |2,x,cs,fp,fp',h,h'=>h.2.trans h'.2.symm
 |3,x,cs,fp,fp',h,h'=>by
  cases own with
  |false=>exact h.1.trans h'.1.symm
  |true=>
   obtain⟨b,e,e2,_⟩:=h
   obtain⟨b',e',e2',_⟩:=h'
   rw[e]at e'
   cases e'
   exact e2.trans e2'.symm
 |4,x,cs,fp,fp',h,h'=>by
  cases own with
  |false=>exact h.1.trans h'.1.symm
  |true=>
   cases x with
   |none=>exact h.2.trans h'.2.symm
   |some l=>
    obtain⟨b,tt,hdr,e,e2,e3,_⟩:=h
    obtain⟨b',tt',hdr',e',e2',e3',_⟩:=h'
    rw[e]at e'
    cases e'
    rw[e3]at e3'
    cases e3'
    exact e2.trans e2'.symm
 |n+5,x,cs,fp,fp',h,h'=>by
  cases own with
  |false=>exact h.1.trans h'.1.symm
  |true=>
   cases x with
   |none=>exact h.1.trans h'.1.symm
   |some l=>
    obtain⟨hdr,xs,e,e2,_⟩:=h
    obtain⟨hdr',xs',e',e2',_⟩:=h'
    rw[e]at e'
    cases e'
    exact e2.trans e2'.symm
theorem qm.fp_det{P:Program}:(τ:Ty)->∀{w:World} {H:FH} {x:τ.den} {cs:List Value} {fp fp':List Nat},qm P τ w H x cs fp->qm P τ w H x cs fp'->fp=fp'
 |.int _,_,_,_,_,_,_,h,h'=>h.2.trans h'.2.symm
 |.bool,_,_,_,_,_,_,h,h'=>h.2.trans h'.2.symm
 |.list false _ _,_,_,_,_,_,_,h,h'=>h.1.trans h'.1.symm
 |.list true _ e,w,H,_,_,_,_,h,h'=>by
  obtain⟨hdr,xs,f,rfl,rfl,ho,hch⟩:=h
  obtain⟨hdr',xs',f',e1,rfl,ho',hch'⟩:=h'
  obtain rfl:hdr=hdr':=by simpa using e1
  have hxs:xs=xs':=by
   rcases ho.2 with⟨rfl,h0⟩|⟨g,cap,cur,rfl,_,hg,_,_,_,ht⟩
   ·have a1:=ho.1
    have a2:=ho'.1
    rw[h0,Nat.zero_mul]at a1 a2
    rw[List.eq_nil_of_length_eq_zero a1,List.eq_nil_of_length_eq_zero a2]
   ·rcases ho'.2 with⟨e0,_⟩|⟨g',cap',cur',e0,_,hg',_,_,_,ht'⟩
    ·cases e0
    ·cases e0
     rw[hg]at hg'
     cases hg'
     exact ht.symm.trans ht'
  subst hxs
  have e9:=qe.fp_det (R:=qm P e w H) (n:=e.size) (λ_ _ _ hh=>qm.length e hh) (λ_ _ _ _ a b=>qm.fp_det e a b) hch hch'
  rw[e9]
 |.pair a b,_,_,_,_,_,_,h,h'=>by
  obtain⟨c1,c2,f1,f2,rfl,rfl,h1,h2⟩:=h
  obtain⟨d1,d2,g1,g2,e1,rfl,k1,k2⟩:=h'
  obtain⟨rfl,rfl⟩:=List.append_inj e1 ((qm.length a h1).trans (qm.length a k1).symm)
  rw[qm.fp_det a h1 k1,qm.fp_det b h2 k2]
 |.str t,_,_,_,_,_,_,h,h'=>qm.fp_det t h h'
 |.ptr _,_,_,_,_,_,_,h,h'=>h.1.trans h'.1.symm
 |.op t,_,_,x,_,_,_,h,h'=>by
  cases x with
  |none=>exact h.2.trans h'.2.symm
  |some y=>
   obtain⟨b,blk,tt,f,rfl,rfl,hb,hr⟩:=h
   obtain⟨b',blk',tt',f',e1,rfl,hb',hr'⟩:=h'
   obtain rfl:b=b':=by simpa using e1
   rw[hb]at hb'
   cases hb'
   rw[qm.fp_det t hr hr']
 |.arr _ e,w,H,_,_,_,_,h,h'=>qe.fp_det (R:=qm P e w H) (n:=e.size) (λ_ _ _ hh=>qm.length e hh) (λ_ _ _ _ a b=>qm.fp_det e a b) h.2 h'.2
 |.fn _ _,_,_,_,_,_,_,h,h'=>h.1.trans h'.1.symm
 |.fn2 _ _ _,_,_,_,_,_,_,h,h'=>h.1.trans h'.1.symm
 |.ext _ _ _ _,_,_,_,_,_,_,h,h'=>qS.fp_det h h'
def qa3(w w':World)(b lo hi:Nat):Prop:=∀i,lo<=i->i<hi->w'.cell? ⟨b,i,none⟩=w.cell? ⟨b,i,none⟩
theorem qa3.of_block{w w':World}{b lo hi:Nat}(h:w'.heap[b]? = w.heap[b]?):qa3 w w' b lo hi:=λi _ _=>World.cell?_of_block (a:=⟨b,i,none⟩) h
theorem qa3.mono{w w':World}{b lo hi lo' hi':Nat}(h:qa3 w w' b lo hi)(h1:lo<=lo')(h2:hi'<=hi):qa3 w w' b lo' hi':=λi a c=>h i (Nat.le_trans h1 a) (Nat.lt_of_lt_of_le c h2)
theorem jO.frame{P:Program}:(τ:Ty)->∀{w w':World} {H:FH} {x:τ.den} {cs:List Value} {fp:List Nat} {b:Nat} {blk:Array Value} {t:TypeId} {pre post:List Value} {q:List qq} {z} {b2 o2:Nat},qP τ x q=some z->qm P τ w H x cs fp->w.heap[b]? = some (.cells blk t (0,0))->blk.toList=pre++cs++post->
  jO w τ b pre.length q b2 o2->qa3 w w' b pre.length (pre.length+τ.size)->(∀k∈fp,w'.heap[k]? = w.heap[k]?)->jO w' τ b pre.length q b2 o2
 |.pair u v,w,w',H,x,cs,fp,b,blk,t,pre,post,q,z,b2,o2,hg,h,hb,hblk,hl,hc,hf=>by
  match q with
  |[]=>exact hl
  |.I _::_=>cases hg
  |.L::q=>
   obtain⟨c1,c2,g1,g2,rfl,rfl,h1,h2⟩:=h
   exact jO.frame u (q:=q) (pre:=pre) (post:=c2++post) hg h1 hb (by rw[hblk];simp) hl (hc.mono (Nat.le_refl _) (by simp only[Ty.size];omega)) (λk hk=>hf k (List.mem_append_left _ hk))
  |.R::q=>
   obtain⟨c1,c2,g1,g2,rfl,rfl,h1,h2⟩:=h
   have hc1:=qm.length u h1
   have hl':jO w v b (pre++c1).length q b2 o2:=by rw[List.length_append,hc1];exact hl
   have:=jO.frame v (w':=w') (q:=q) (pre:=pre++c1) (post:=post) hg h2 hb (by rw[hblk];simp) hl' (hc.mono (by rw[List.length_append];omega) (by simp only[Ty.size,List.length_append,hc1];omega)) (λk hk=>hf k (List.mem_append_right _ hk))
   rw[List.length_append,hc1]at this
   exact this
 |.str s,w,w',H,x,cs,fp,b,blk,t,pre,post,q,z,b2,o2,hg,h,hb,hblk,hl,hc,hf=>by
  match q with
  |[]=>exact hl
  |a::q=>exact jO.frame s (q:=a::q) hg h hb hblk hl hc hf
 |.list true tid e,w,w',H,x,cs,fp,b,blk,t,pre,post,q,z,b2,o2,hg,h,hb,hblk,hl,hc,hf=>by
  match q with
  |[]=>exact hl
  |.L::_=>cases hg
  |.R::_=>cases hg
  |.I i::q=>
   obtain⟨g,n,cap,hcell,hloc⟩:=hl
   simp only[qP]at hg
   split at hg
   case isFalse=>cases hg
   obtain⟨z0,hz,hg⟩:=Option.bind_eq_some_iff.1 hg
   obtain⟨hdr,xs,fp',rfl,rfl,ho,hch⟩:=h
   refine⟨g,n,cap,by rw[hc pre.length (Nat.le_refl _) (by simp only[Ty.size];omega)];exact hcell,?_⟩
   rw[qy hb,<-Array.getElem?_toList,hblk]at hcell
   simp only[List.append_assoc,Nat.le_refl,List.getElem?_append_right,Nat.sub_self,List.singleton_append,List.getElem?_cons_zero,Option.some.injEq]at hcell
   subst hcell
   rcases ho.2 with⟨e0,_⟩|⟨gb,cap',cur,e0,hgb0,hgb,hcap,hcm,hsz,htake⟩
   ·cases e0
   ·cases e0
    obtain⟨pre2,c2,post2,g1,gg,g2,rfl,rfl,ht1,h2,ht2⟩:=qe.at hch hz
    have hlen:i.toNat<List.length x:=(List.getElem?_eq_some_iff.1 hz).1
    have hpl:pre2.length=i.toNat*e.size:=by
     rw[qe.length (n:=e.size) (λ_ _ _ hh=>qm.length e hh) ht1,List.length_take,Nat.min_eq_left (Nat.le_of_lt hlen)]
    have hcur:cur.toList=pre2++c2++(post2++cur.toList.drop (List.length x*e.size)):=by
     have e9:=(List.take_append_drop (List.length x*e.size) cur.toList).symm
     rw[htake]at e9
     exact e9.trans (by simp only[List.append_assoc])
    rw[<-hpl]at hloc ⊢
    exact jO.frame e (q:=q) hg h2 hgb hcur hloc (qa3.of_block (hf g (by simp[Value.ownBlock]))) (λk hk=>hf k (by simp[hk]))
 |.arr n e,w,w',H,x,cs,fp,b,blk,t,pre,post,q,z,b2,o2,hg,h,hb,hblk,hl,hc,hf=>by
  match q with
  |[]=>exact hl
  |.L::_=>cases hg
  |.R::_=>cases hg
  |.I i::q=>
   simp only[qP]at hg
   split at hg
   case isFalse=>cases hg
   obtain⟨z0,hz,hg⟩:=Option.bind_eq_some_iff.1 hg
   obtain⟨hln,hch⟩:=h
   obtain⟨pre2,c2,post2,g1,g,g2,rfl,rfl,ht1,h2,ht2⟩:=qe.at hch hz
   have hlen:i.toNat<List.length x:=(List.getElem?_eq_some_iff.1 hz).1
   have hpl:pre2.length=i.toNat*e.size:=by
    rw[qe.length (n:=e.size) (λ_ _ _ hh=>qm.length e hh) ht1,List.length_take,Nat.min_eq_left (Nat.le_of_lt hlen)]
   have hl':jO w e b (pre++pre2).length q b2 o2:=by rw[List.length_append,hpl];exact hl
   have hmul:i.toNat*e.size+e.size<=n*e.size:=by
    rw[<-Nat.succ_mul]
    exact Nat.mul_le_mul_right _ (by omega)
   have:=jO.frame e (w':=w') (q:=q) (pre:=pre++pre2) (post:=post2++post) hg h2 hb (by rw[hblk];simp) hl' (hc.mono (by rw[List.length_append];omega) (by simp only[Ty.size,List.length_append,hpl];omega)) (λk hk=>hf k (by simp[hk]))
   rw[List.length_append,hpl]at this
   exact this
 |.op s,w,w',H,x,cs,fp,b,blk,t,pre,post,q,z,b2,o2,hg,h,hb,hblk,hl,hc,hf=>by
  match q with
  |[]=>exact hl
  |.L::_=>cases hg
  |.R::_=>cases hg
  |.I i::q=>
   obtain⟨g,hcell,hloc⟩:=hl
   simp only[qP]at hg
   obtain⟨z0,rfl,hg⟩:=Option.bind_eq_some_iff.1 hg
   obtain⟨gb,gblk,gt,fp',rfl,rfl,hgb,hr0⟩:=h
   refine⟨g,by rw[hc pre.length (Nat.le_refl _) (by simp only[Ty.size];omega)];exact hcell,?_⟩
   rw[qy hb,<-Array.getElem?_toList,hblk]at hcell
   simp only[List.append_assoc,Nat.le_refl,List.getElem?_append_right,Nat.sub_self,List.singleton_append,List.getElem?_cons_zero,Option.some.injEq]at hcell
   cases hcell
   exact jO.frame s (q:=q) (pre:=[]) (post:=[]) hg hr0 hgb (by simp) hloc (qa3.of_block (hf g (by simp))) (λk hk=>hf k (by simp[hk]))
 |.int _,_,_,_,_,_,_,_,_,_,_,_,_,_,_,_,_,_,_,_,hl,_,_=>hl
 |.bool,_,_,_,_,_,_,_,_,_,_,_,_,_,_,_,_,_,_,_,hl,_,_=>hl
 |.list false _ _,_,_,_,_,_,_,_,_,_,_,_,_,_,_,_,_,_,_,_,hl,_,_=>hl
 |.ptr _,_,_,_,_,_,_,_,_,_,_,_,_,_,_,_,_,_,_,_,hl,_,_=>hl
 |.fn _ _,_,_,_,_,_,_,_,_,_,_,_,_,_,_,_,_,_,_,_,hl,_,_=>hl
 |.fn2 _ _ _,_,_,_,_,_,_,_,_,_,_,_,_,_,_,_,_,_,_,_,hl,_,_=>hl
 |.ext _ _ _ _,_,_,_,_,_,_,_,_,_,_,_,_,_,_,_,_,_,_,_,hl,_,_=>hl
def Chg(P:Program)(w w':World)(H:FH)(b1 o1:Nat)(y:Σ σ:Ty,σ.den):Prop:=
 ∃c f,qm P y.1 w H y.2 c f/\(∀i,i<c.length->w.cell? ⟨b1,o1+i,none⟩=c[i]?)/\(∀k,k<w.heap.size->k≠b1->k∉f->w'.heap[k]? = w.heap[k]?)/\∀i,(i<o1\/o1+y.1.size<=i)->w'.cell? ⟨b1,i,none⟩=w.cell? ⟨b1,i,none⟩
theorem Chg.foot{P:Program}{τ:Ty}{w w':World}{H:FH}{x:τ.den}{cs:List Value}{fp:List Nat}{b:Nat}{blk:Array Value}{t:TypeId}{pre post:List Value}{p:List qq}{b1 o1:Nat}{y}(hg:qP τ x p=some y)(h:qm P τ w H x cs fp)(hb:w.heap[b]? = some (.cells blk t (0,0)))(hblk:blk.toList=pre++cs++post)(hnd:(b::fp).Nodup)
  (hl:jO w τ b pre.length p b1 o1) (hc:Chg P w w' H b1 o1 y):(∀k,k<w.heap.size->k≠b1->k∉fp->w'.heap[k]? = w.heap[k]?):=by
 obtain⟨c,f,h1,h2,h3,h4⟩:=hc
 obtain⟨σ,y⟩:=y
 obtain⟨b',o',blk',t',pre',c',post',f1,f',f2,e1,e2,e3,e4,e5,e6,hl',e7⟩:=qm.desc τ hg h hb hblk hnd
 obtain⟨rfl,rfl⟩:=jO.det τ hl (hl' w (λ_ _=>rfl))
 have hcc:c=c':=by
  have l1:=qm.length σ h1
  have l2:=qm.length σ e6
  apply List.ext_getElem?
  intro i
  by_cases hi:i<c.length
  ·have:=h2 i hi
   rw[qy e1,<-Array.getElem?_toList,e2,<-e3,List.append_assoc,List.getElem?_append_right (by omega),List.getElem?_append_left (by omega)]at this
   rw[<-this]
   congr 1
   omega
  ·rw[List.getElem?_eq_none (by omega),List.getElem?_eq_none (by omega)]
 subst hcc
 obtain rfl:=qm.fp_det σ h1 e6
 intro k hlt hk hkf
 exact h3 k hlt hk (λhh=>hkf (by rw[e4];simp[hh]))
theorem Chg.outside{P:Program}{τ:Ty}{w w':World}{H:FH}{x:τ.den}{cs:List Value}{fp:List Nat}{b:Nat}{blk:Array Value}{t:TypeId}{pre post:List Value}{p:List qq}{b1 o1:Nat}{y}(hg:qP τ x p=some y)(h:qm P τ w H x cs fp)(hb:w.heap[b]? = some (.cells blk t (0,0)))(hblk:blk.toList=pre++cs++post)(hnd:(b::fp).Nodup)
  (hl:jO w τ b pre.length p b1 o1) (hc:Chg P w w' H b1 o1 y):(∀k,k<w.heap.size->k≠b->k∉fp->w'.heap[k]? = w.heap[k]?)/\∀i,(i<pre.length\/pre.length+τ.size<=i)->w'.cell? ⟨b,i,none⟩=w.cell? ⟨b,i,none⟩:=by
 have hf:=hc.foot hg h hb hblk hnd hl
 obtain⟨c,f,h1,h2,h3,h4⟩:=hc
 rcases jO.away τ hg h hb hblk hl with⟨rfl,k1,k2⟩|k
 ·exact⟨hf,λi hi=>h4 i (by omega)⟩
 ·have hbn:b≠b1:=by rintro rfl;exact(List.nodup_cons.1 hnd).1 k
  exact⟨λi hlt hi hif=>hf i hlt (by rintro rfl;exact hif k) hif,λi _=>World.cell?_of_block (a:=⟨b,i,none⟩) (hf b (Array.getElem?_eq_some_iff.1 hb).1 hbn (List.nodup_cons.1 hnd).1)⟩
theorem Chg.thru{P:Program}{τ:Ty}{w w':World}{H:FH}{x:τ.den}{cs:List Value}{fp:List Nat}{b:Nat}{blk:Array Value}{t:TypeId}{pre post:List Value}{p:List qq}{b1 o1:Nat}{y}(hg:qP τ x p=some y)(h:qm P τ w H x cs fp)(hb:w.heap[b]? = some (.cells blk t (0,0)))(hblk:blk.toList=pre++cs++post)(hnd:(b::fp).Nodup)
  (hl:jO w τ b pre.length p b1 o1) (hc:Chg P w w' H b1 o1 y) (ht:Go.Vi.thru τ p=true):∀k,k<w.heap.size->k∉fp->w'.heap[k]? = w.heap[k]?:=by
 have h1:=qhE τ ht hg h hb hblk hl
 exact λk hlt hk=>hc.foot hg h hb hblk hnd hl k hlt (by rintro rfl;exact hk h1) hk
def StayAt(P:Program)(τ:Ty):Prop:=∀{w w':World} {H:FH} {x:τ.den} {cs:List Value} {fp:List Nat} {b:Nat} {blk:Array Value} {t:TypeId} {pre post:List Value} {p q:List qq} {b1 o1 b2 o2:Nat} {y z},qa9 p q=true->qP τ x p=some y->qP τ x q=some z->qm P τ w H x cs fp->w.heap[b]? = some (.cells blk t (0,0))->blk.toList=pre++cs++post->(b::fp).Nodup->
  jO w τ b pre.length p b1 o1->jO w τ b pre.length q b2 o2->Chg P w w' H b1 o1 y->jO w' τ b pre.length q b2 o2/\(qaF τ p q=true\/w'.heap[b1]? = w.heap[b1]?->qa3 w w' b2 o2 (o2+z.1.size))
theorem Chg.other{P:Program}{u v:Ty}{w w':World}{H:FH}{x:u.den}{x2:v.den}{c1 c2:List Value}{g1 g2:List Nat}{b:Nat}{blk:Array Value}{t:TypeId}{pre1 post1 pre2 post2:List Value}{p q:List qq}{b1 o1 b2 o2:Nat}{y z}(hg:qP u x p=some y)(hg2:qP v x2 q=some z)(h1:qm P u w H x c1 g1)(h2:qm P v w H x2 c2 g2)(hb:w.heap[b]? = some (.cells blk t (0,0)))
  (hblk1:blk.toList=pre1++c1++post1) (hblk2:blk.toList=pre2++c2++post2) (hnd:(b::g1).Nodup) (hap:pre2.length+v.size<=pre1.length\/pre1.length+u.size<=pre2.length) (hdis:∀k∈g2,k≠b/\k∉g1)
  (hl:jO w u b pre1.length p b1 o1) (hl2:jO w v b pre2.length q b2 o2) (hc:Chg P w w' H b1 o1 y):jO w' v b pre2.length q b2 o2/\qa3 w w' b2 o2 (o2+z.1.size):=by
 obtain⟨k1,k2⟩:=hc.outside hg h1 hb hblk1 hnd hl
 have hcell:qa3 w w' b pre2.length (pre2.length+v.size):=λi h3 h4=>k2 i (by omega)
 have hblocks:∀k∈g2,w'.heap[k]? = w.heap[k]?:=λk hk=>k1 k (qm.dat v h2 k hk).lt (hdis k hk).1 (hdis k hk).2
 refine⟨jO.frame v hg2 h2 hb hblk2 hl2 hcell hblocks,?_⟩
 rcases jO.away v hg2 h2 hb hblk2 hl2 with⟨rfl,k3,k4⟩|k
 ·exact hcell.mono k3 k4
 ·exact qa3.of_block (hblocks _ k)
theorem Row.stay{P:Program}{tid:Nat}{e:Ty}(ih:StayAt P e){w w':World}{H:FH}{x:List e.den}{hdr:Value}{fp:List Nat}{g n cap:Nat}{i j:Int}{p q:List qq}{b1 o1 b2 o2:Nat}{y z}(hw:qa9 p q=true)(hg:qP (.list true tid e) x (.I i::p)=some y)(hg2:qP (.list true tid e) x (.I j::q)=some z)
  (h:qm P (.list true tid e) w H x [hdr] fp) (hnd:fp.Nodup) (hh:hdr = .slice (some ⟨g,0,none⟩) n cap) (hl:jO w e g (i.toNat*e.size) p b1 o1) (hl2:jO w e g (j.toNat*e.size) q b2 o2) (hc:Chg P w w' H b1 o1 y):
  jO w' e g (j.toNat*e.size) q b2 o2/\(qaF e p q=true\/w'.heap[b1]? = w.heap[b1]?->qa3 w w' b2 o2 (o2+z.1.size)):=by
 simp only[qP]at hg hg2
 split at hg
 case isFalse=>cases hg
 split at hg2
 case isFalse=>cases hg2
 obtain⟨zi,hzi,hg⟩:=Option.bind_eq_some_iff.1 hg
 obtain⟨zj,hzj,hg2⟩:=Option.bind_eq_some_iff.1 hg2
 obtain⟨hdr',xs,fp',e1,rfl,ho,hch⟩:=h
 obtain rfl:hdr=hdr':=by simpa using e1
 subst hh
 rcases ho.2 with⟨e0,_⟩|⟨gb,cap',cur,e0,hgb0,hgb,hcap,hcm,hsz,htake⟩
 ·cases e0
 cases e0
 have hcur:cur.toList=xs++cur.toList.drop (List.length x*e.size):=by
  have e9:=(List.take_append_drop (List.length x*e.size) cur.toList).symm
  rw[htake]at e9
  exact e9
 have hnd':(g::fp').Nodup:=by simpa[Value.ownBlock]using hnd
 have hn:∀x c f,qm P e w H x c f->c.length=e.size:=λ_ _ _ hh=>qm.length e hh
 by_cases hij:i.toNat=j.toNat
 ·rw[<-hij]at hzj hl2 ⊢
  rw[hzi]at hzj
  cases hzj
  obtain⟨pre2,c2,post2,g1,gg,g2,rfl,rfl,ht1,h2,ht2⟩:=qe.at hch hzi
  have hlen:i.toNat<List.length x:=(List.getElem?_eq_some_iff.1 hzi).1
  have hpl:pre2.length=i.toNat*e.size:=by
   rw[qe.length hn ht1,List.length_take,Nat.min_eq_left (Nat.le_of_lt hlen)]
  rw[<-hpl]at hl hl2 ⊢
  have hb2:cur.toList=pre2++c2++(post2++cur.toList.drop (List.length x*e.size)):=hcur.trans (by simp only[List.append_assoc])
  have hnd2:(g::gg).Nodup:=by
   simp only[List.nodup_cons,List.nodup_append,List.mem_append]at hnd' ⊢
   exact⟨λhh=>hnd'.1 (.inl (.inr hh)),hnd'.2.1.2.1⟩
  exact ih hw hg hg2 h2 hgb hb2 hnd2 hl hl2 hc
 ·rcases Nat.lt_or_gt_of_ne hij with hlt|hlt
  ·obtain⟨p1,ci,p2,cj,p3,f1,fi,f2,fj,f3,rfl,rfl,l1,l2,h1,h2⟩:=qe.at2 hn hch hzi hzj hlt
   rw[<-l1]at hl
   rw[<-l2]at hl2 ⊢
   have hb1:cur.toList=p1++ci++(p2++cj++p3++cur.toList.drop (List.length x*e.size)):=hcur.trans (by simp only[List.append_assoc])
   have hb2:cur.toList=(p1++ci++p2)++cj++(p3++cur.toList.drop (List.length x*e.size)):=hcur.trans (by simp only[List.append_assoc])
   simp only[List.nodup_cons,List.nodup_append,List.mem_append]at hnd'
   have hnd2:(g::fi).Nodup:=by
    simp only[List.nodup_cons]
    exact⟨λhh=>hnd'.1 (.inl (.inr hh)),hnd'.2.1.2.1⟩
   have hdis:∀k∈fj,k≠g/\k∉fi:=λk hk=>⟨by rintro rfl;exact hnd'.1 (.inr (.inl (.inr hk))),λhh=>hnd'.2.2.2 k (.inr hh) k (.inl (.inr hk)) rfl⟩
   have hci:=qm.length e h1
   obtain⟨k1,k2⟩:=hc.other hg hg2 h1 h2 hgb hb1 hb2 hnd2 (.inr (by simp only[List.length_append,hci];omega)) hdis hl hl2
   exact⟨k1,λ_=>k2⟩
  ·obtain⟨p1,cj,p2,ci,p3,f1,fj,f2,fi,f3,rfl,rfl,l1,l2,h2,h1⟩:=qe.at2 hn hch hzj hzi hlt
   rw[<-l2]at hl
   rw[<-l1]at hl2 ⊢
   have hb2:cur.toList=p1++cj++(p2++ci++p3++cur.toList.drop (List.length x*e.size)):=hcur.trans (by simp only[List.append_assoc])
   have hb1:cur.toList=(p1++cj++p2)++ci++(p3++cur.toList.drop (List.length x*e.size)):=hcur.trans (by simp only[List.append_assoc])
   simp only[List.nodup_cons,List.nodup_append,List.mem_append]at hnd'
   have hnd2:(g::fi).Nodup:=by
    simp only[List.nodup_cons]
    exact⟨λhh=>hnd'.1 (.inr (.inl (.inr hh))),hnd'.2.2.1.1.2.1⟩
   have hdis:∀k∈fj,k≠g/\k∉fi:=λk hk=>⟨by rintro rfl;exact hnd'.1 (.inl (.inr hk)),λhh=>hnd'.2.2.2 k (.inr hk) k (.inl (.inr hh)) rfl⟩
   have hcj:=qm.length e h2
   obtain⟨k1,k2⟩:=hc.other hg hg2 h1 h2 hgb hb1 hb2 hnd2 (.inl (by simp only[List.length_append,hcj];omega)) hdis hl hl2
   exact⟨k1,λ_=>k2⟩
theorem Chg.root{P:Program}{τ:Ty}{w w':World}{H:FH}{x:τ.den}{cs:List Value}{fp:List Nat}{b:Nat}{blk:Array Value}{t:TypeId}{pre post:List Value}{p:List qq}{b1 o1:Nat}{y}(hg:qP τ x p=some y)(h:qm P τ w H x cs fp)(hb:w.heap[b]? = some (.cells blk t (0,0)))(hblk:blk.toList=pre++cs++post)(hnd:(b::fp).Nodup)
  (hl:jO w τ b pre.length p b1 o1) (hc:Chg P w w' H b1 o1 y) (hv:Go.Vi.thru τ p=true\/w'.heap[b1]? = w.heap[b1]?):w'.heap[b]? = w.heap[b]?:=by
 have hnb:=(List.nodup_cons.1 hnd).1
 rcases hv with hv|hv
 ·exact hc.thru hg h hb hblk hnd hl hv b (Array.getElem?_eq_some_iff.1 hb).1 hnb
 ·by_cases e:b=b1
  ·rw[e];exact hv
  ·exact hc.foot hg h hb hblk hnd hl b (Array.getElem?_eq_some_iff.1 hb).1 e hnb
theorem jO.stay{P:Program}:(τ:Ty)->∀{w w':World} {H:FH} {x:τ.den} {cs:List Value} {fp:List Nat} {b:Nat} {blk:Array Value} {t:TypeId} {pre post:List Value} {p q:List qq} {b1 o1 b2 o2:Nat} {y z},qa9 p q=true->qP τ x p=some y->qP τ x q=some z->qm P τ w H x cs fp->w.heap[b]? = some (.cells blk t (0,0))->blk.toList=pre++cs++post->(b::fp).Nodup->
  jO w τ b pre.length p b1 o1->jO w τ b pre.length q b2 o2->Chg P w w' H b1 o1 y->jO w' τ b pre.length q b2 o2/\(qaF τ p q=true\/w'.heap[b1]? = w.heap[b1]?->qa3 w w' b2 o2 (o2+z.1.size))
 |.pair u v,w,w',H,x,cs,fp,b,blk,t,pre,post,p,q,b1,o1,b2,o2,y,z,hw,hg,hg2,h,hb,hblk,hnd,hl,hl2,hc=>by
  have h0:=h
  obtain⟨c1,c2,g1,g2,rfl,rfl,h1,h2⟩:=h
  have hc1:=qm.length u h1
  have hblk1:blk.toList=pre++c1++(c2++post):=by rw[hblk];simp
  have hblk2:blk.toList=(pre++c1)++c2++post:=by rw[hblk];simp
  have hnd':=hnd
  simp only[List.nodup_cons,List.nodup_append,List.mem_append]at hnd'
  have hnd1:(b::g1).Nodup:=List.nodup_cons.2 ⟨λhh=>hnd'.1 (.inl hh),hnd'.2.1⟩
  have hnd2:(b::g2).Nodup:=List.nodup_cons.2 ⟨λhh=>hnd'.1 (.inr hh),hnd'.2.2.1⟩
  match p,q with
  |p,[]=>
   cases hg2
   refine⟨hl2,λhv=>?_⟩
   have hv':thru (.pair u v) p=true\/w'.heap[b1]? = w.heap[b1]?:=hv.imp_left λhv=>by
    match p with
    |[]=>exact hv
    |.L::_=>exact hv
    |.R::_=>exact hv
    |.I _::_=>exact hv
   obtain⟨rfl,rfl⟩:=hl2
   exact qa3.of_block (hc.root hg h0 hb hblk hnd hl hv')
  |.L::p,.L::q=>exact jO.stay u (p:=p) (q:=q) hw hg hg2 h1 hb hblk1 hnd1 hl hl2 hc
  |.R::p,.R::q=>
   have hl':jO w v b (pre++c1).length p b1 o1:=by rw[List.length_append,hc1];exact hl
   have hl2':jO w v b (pre++c1).length q b2 o2:=by rw[List.length_append,hc1];exact hl2
   have:=jO.stay v (p:=p) (q:=q) hw hg hg2 h2 hb hblk2 hnd2 hl' hl2' hc
   rw[List.length_append,hc1]at this
   exact this
  |.L::p,.R::q=>
   have hl2':jO w v b (pre++c1).length q b2 o2:=by rw[List.length_append,hc1];exact hl2
   have:=hc.other (u:=u) (v:=v) (p:=p) (q:=q) hg hg2 h1 h2 hb hblk1 hblk2 hnd1 (.inr (by rw[List.length_append,hc1];omega)) (λk hk=>⟨by rintro rfl;exact hnd'.1 (.inr hk),λhh=>hnd'.2.2.2 k hh k hk rfl⟩) hl hl2'
   rw[List.length_append,hc1]at this
   exact⟨this.1,λ_=>this.2⟩
  |.R::p,.L::q=>
   have hl':jO w v b (pre++c1).length p b1 o1:=by rw[List.length_append,hc1];exact hl
   have:=hc.other (u:=v) (v:=u) (p:=p) (q:=q) hg hg2 h2 h1 hb hblk2 hblk1 hnd2 (.inl (by rw[List.length_append,hc1];omega)) (λk hk=>⟨by rintro rfl;exact hnd'.1 (.inl hk),λhh=>hnd'.2.2.2 k hk k hh rfl⟩) hl' hl2
   exact⟨this.1,λ_=>this.2⟩
  |[],_::_=>simp[qa9]at hw
  |.I _::_,_::_=>cases hg
  |.L::_,.I _::_=>cases hg2
  |.R::_,.I _::_=>cases hg2
 |.str s,w,w',H,x,cs,fp,b,blk,t,pre,post,p,q,b1,o1,b2,o2,y,z,hw,hg,hg2,h,hb,hblk,hnd,hl,hl2,hc=>by
  match p,q with
  |p,[]=>
   cases hg2
   refine⟨hl2,λhv=>?_⟩
   obtain⟨rfl,rfl⟩:=hl2
   have hv':thru (.str s) p=true\/w'.heap[b1]? = w.heap[b1]?:=hv.imp_left λhv=>by
    have hv:qaF s p []=true:=hv
    exact qc9 s hv
   exact qa3.of_block (hc.root hg h hb hblk hnd hl hv')
  |[],_::_=>simp[qa9]at hw
  |a::p,a'::q=>exact jO.stay s (p:=a::p) (q:=a'::q) hw hg hg2 h hb hblk hnd hl hl2 hc
 |.list true tid e,w,w',H,x,cs,fp,b,blk,t,pre,post,p,q,b1,o1,b2,o2,y,z,hw,hg,hg2,h,hb,hblk,hnd,hl,hl2,hc=>by
  match p,q with
  |p,[]=>
   cases hg2
   refine⟨hl2,λhv=>?_⟩
   obtain⟨rfl,rfl⟩:=hl2
   have hv':thru (.list true tid e) p=true\/w'.heap[b1]? = w.heap[b1]?:=hv.imp_left λhv=>qc9 (.list true tid e) hv
   exact qa3.of_block (hc.root hg h hb hblk hnd hl hv')
  |[],_::_=>simp[qa9]at hw
  |.L::_,_::_=>cases hg
  |.R::_,_::_=>cases hg
  |.I _::_,.L::_=>cases hg2
  |.I _::_,.R::_=>cases hg2
  |.I i::p,.I j::q=>
   have hroot:=hc.root hg h hb hblk hnd hl (.inl rfl)
   obtain⟨hdr,xs,fp',rfl,rfl,ho,hch⟩:=h
   obtain⟨g,n,cap,hcell,hloc⟩:=hl
   obtain⟨g',n',cap',hcell',hloc'⟩:=hl2
   rw[hcell]at hcell'
   cases hcell'
   have hhdr:hdr = .slice (some ⟨g,0,none⟩) n cap:=by
    rw[qy hb,<-Array.getElem?_toList,hblk]at hcell
    simpa using hcell
   obtain⟨k1,k2⟩:=Row.stay (tid:=tid) (λa b c d e' f g h i j=>jO.stay e a b c d e' f g h i j) (p:=p) (q:=q) hw hg hg2 ⟨hdr,xs,fp',rfl,rfl,ho,hch⟩ (List.nodup_cons.1 hnd).2 hhdr hloc hloc' hc
   exact⟨⟨g,n,cap,by rw[World.cell?_of_block (a:=⟨b,pre.length,none⟩) hroot];exact hcell,k1⟩,k2⟩
 |.op s,w,w',H,x,cs,fp,b,blk,t,pre,post,p,q,b1,o1,b2,o2,y,z,hw,hg,hg2,h,hb,hblk,hnd,hl,hl2,hc=>by
  match p,q with
  |p,[]=>
   cases hg2
   refine⟨hl2,λhv=>?_⟩
   obtain⟨rfl,rfl⟩:=hl2
   have hv':thru (.op s) p=true\/w'.heap[b1]? = w.heap[b1]?:=hv.imp_left λhv=>qc9 (.op s) hv
   exact qa3.of_block (hc.root hg h hb hblk hnd hl hv')
  |[],_::_=>simp[qa9]at hw
  |.L::_,_::_=>cases hg
  |.R::_,_::_=>cases hg
  |.I _::_,.L::_=>cases hg2
  |.I _::_,.R::_=>cases hg2
  |.I i::p,.I j::q=>
   have hroot:=hc.root hg h hb hblk hnd hl (.inl rfl)
   simp only[qP]at hg hg2
   obtain⟨z0,rfl,hg⟩:=Option.bind_eq_some_iff.1 hg
   obtain⟨z1,e1,hg2⟩:=Option.bind_eq_some_iff.1 hg2
   cases e1
   obtain⟨gb,gblk,gt,fp',rfl,rfl,hgb,hr0⟩:=h
   obtain⟨g,hcell,hloc⟩:=hl
   obtain⟨g',hcell',hloc'⟩:=hl2
   rw[hcell]at hcell'
   cases hcell'
   have hhdr:g=gb:=by
    rw[qy hb,<-Array.getElem?_toList,hblk]at hcell
    have:=hcell
    simp only[List.append_assoc,Nat.le_refl,List.getElem?_append_right,Nat.sub_self,List.singleton_append,List.getElem?_cons_zero,Option.some.injEq]at this
    cases this
    rfl
   subst hhdr
   obtain⟨k1,k2⟩:=jO.stay s (p:=p) (q:=q) (pre:=[]) (post:=[]) hw hg hg2 hr0 hgb (by simp) (List.nodup_cons.1 hnd).2 hloc hloc' hc
   exact⟨⟨g,by rw[World.cell?_of_block (a:=⟨b,pre.length,none⟩) hroot];exact hcell,k1⟩,k2⟩
 |.arr n e,w,w',H,x,cs,fp,b,blk,t,pre,post,p,q,b1,o1,b2,o2,y,z,hw,hg,hg2,h,hb,hblk,hnd,hl,hl2,hc=>by
  match p,q with
  |p,[]=>
   cases hg2
   refine⟨hl2,λhv=>?_⟩
   obtain⟨rfl,rfl⟩:=hl2
   have hv':thru (.arr n e) p=true\/w'.heap[b1]? = w.heap[b1]?:=hv.imp_left λhv=>qc9 (.arr n e) hv
   exact qa3.of_block (hc.root hg h hb hblk hnd hl hv')
  |[],_::_=>simp[qa9]at hw
  |.L::_,_::_=>cases hg
  |.R::_,_::_=>cases hg
  |.I _::_,.L::_=>cases hg2
  |.I _::_,.R::_=>cases hg2
  |.I i::p,.I j::q=>
   simp only[qP]at hg hg2
   split at hg
   case isFalse=>cases hg
   split at hg2
   case isFalse=>cases hg2
   obtain⟨zi,hzi,hg⟩:=Option.bind_eq_some_iff.1 hg
   obtain⟨zj,hzj,hg2⟩:=Option.bind_eq_some_iff.1 hg2
   obtain⟨hln,hch⟩:=h
   have hn:∀x c f,qm P e w H x c f->c.length=e.size:=λ_ _ _ hh=>qm.length e hh
   have hloc:∀{p:List qq} {b' o':Nat} {w:World} {i:Int},jO w (.arr n e) b pre.length (.I i::p) b' o'->jO w e b (pre.length+i.toNat*e.size) p b' o':=λhh=>hh
   have hnd':=hnd
   by_cases hij:i.toNat=j.toNat
   ·rw[<-hij]at hzj
    rw[hzi]at hzj
    cases hzj
    obtain⟨pre2,c2,post2,g1,gg,g2,rfl,rfl,ht1,h2,ht2⟩:=qe.at hch hzi
    have hlen:i.toNat<List.length x:=(List.getElem?_eq_some_iff.1 hzi).1
    have hpl:pre2.length=i.toNat*e.size:=by
     rw[qe.length hn ht1,List.length_take,Nat.min_eq_left (Nat.le_of_lt hlen)]
    have hl':jO w e b (pre++pre2).length p b1 o1:=by rw[List.length_append,hpl];exact hl
    have hl2':jO w e b (pre++pre2).length q b2 o2:=by rw[List.length_append,hpl,hij];exact hl2
    simp only[List.nodup_cons,List.nodup_append,List.mem_append]at hnd'
    have:=jO.stay e (p:=p) (q:=q) (pre:=pre++pre2) (post:=post2++post) hw hg hg2 h2 hb (by rw[hblk];simp) (List.nodup_cons.2 ⟨λhh=>hnd'.1 (.inl (.inr hh)),hnd'.2.1.2.1⟩) hl' hl2' hc
    rw[List.length_append,hpl,hij]at this
    exact this
   ·rcases Nat.lt_or_gt_of_ne hij with hlt|hlt
    ·obtain⟨p1,ci,p2,cj,p3,f1,fi,f2,fj,f3,rfl,rfl,l1,l2,h1,h2⟩:=qe.at2 hn hch hzi hzj hlt
     have hl':jO w e b (pre++p1).length p b1 o1:=by rw[List.length_append,l1];exact hl
     have hl2':jO w e b (pre++(p1++ci++p2)).length q b2 o2:=by rw[List.length_append,l2];exact hl2
     simp only[List.nodup_cons,List.nodup_append,List.mem_append]at hnd'
     have hci:=qm.length e h1
     have:=hc.other hg hg2 h1 h2 hb (pre1:=pre++p1) (post1:=p2++cj++p3++post) (pre2:=pre++(p1++ci++p2)) (post2:=p3++post) (by rw[hblk];simp) (by rw[hblk];simp) (List.nodup_cons.2 ⟨λhh=>hnd'.1 (.inl (.inr hh)),hnd'.2.1.2.1⟩) (.inr (by simp only[List.length_append,hci];omega))
      (λk hk=>⟨by rintro rfl;exact hnd'.1 (.inr (.inl (.inr hk))),λhh=>hnd'.2.2.2 k (.inr hh) k (.inl (.inr hk)) rfl⟩) hl' hl2'
     rw[List.length_append,l2]at this
     exact⟨this.1,λ_=>this.2⟩
    ·obtain⟨p1,cj,p2,ci,p3,f1,fj,f2,fi,f3,rfl,rfl,l1,l2,h2,h1⟩:=qe.at2 hn hch hzj hzi hlt
     have hl':jO w e b (pre++(p1++cj++p2)).length p b1 o1:=by rw[List.length_append,l2];exact hl
     have hl2':jO w e b (pre++p1).length q b2 o2:=by rw[List.length_append,l1];exact hl2
     simp only[List.nodup_cons,List.nodup_append,List.mem_append]at hnd'
     have hcj:=qm.length e h2
     have:=hc.other hg hg2 h1 h2 hb (pre1:=pre++(p1++cj++p2)) (post1:=p3++post) (pre2:=pre++p1) (post2:=p2++ci++p3++post) (by rw[hblk];simp) (by rw[hblk];simp) (List.nodup_cons.2 ⟨λhh=>hnd'.1 (.inr (.inl (.inr hh))),hnd'.2.2.1.1.2.1⟩) (.inl (by simp only[List.length_append,hcj];omega))
      (λk hk=>⟨by rintro rfl;exact hnd'.1 (.inl (.inr hk)),λhh=>hnd'.2.2.2 k (.inr hk) k (.inl (.inr hh)) rfl⟩) hl' hl2'
     rw[List.length_append,l1]at this
     exact⟨this.1,λ_=>this.2⟩
 |.int _,w,w',H,x,cs,fp,b,blk,t,pre,post,p,q,b1,o1,b2,o2,y,z,hw,hg,hg2,h,hb,hblk,hnd,hl,hl2,hc=>by
  obtain⟨rfl,rfl,rfl⟩:=hl2
  exact⟨⟨rfl,rfl,rfl⟩,λhv=>qa3.of_block (hc.root hg h hb hblk hnd hl (hv.imp_left λh=>by simp[qaF]at h))⟩
 |.bool,w,w',H,x,cs,fp,b,blk,t,pre,post,p,q,b1,o1,b2,o2,y,z,hw,hg,hg2,h,hb,hblk,hnd,hl,hl2,hc=>by
  obtain⟨rfl,rfl,rfl⟩:=hl2
  exact⟨⟨rfl,rfl,rfl⟩,λhv=>qa3.of_block (hc.root hg h hb hblk hnd hl (hv.imp_left λh=>by simp[qaF]at h))⟩
 |.list false _ _,w,w',H,x,cs,fp,b,blk,t,pre,post,p,q,b1,o1,b2,o2,y,z,hw,hg,hg2,h,hb,hblk,hnd,hl,hl2,hc=>by
  obtain⟨rfl,rfl,rfl⟩:=hl2
  exact⟨⟨rfl,rfl,rfl⟩,λhv=>qa3.of_block (hc.root hg h hb hblk hnd hl (hv.imp_left λh=>by simp[qaF]at h))⟩
 |.ptr _,w,w',H,x,cs,fp,b,blk,t,pre,post,p,q,b1,o1,b2,o2,y,z,hw,hg,hg2,h,hb,hblk,hnd,hl,hl2,hc=>by
  obtain⟨rfl,rfl,rfl⟩:=hl2
  exact⟨⟨rfl,rfl,rfl⟩,λhv=>qa3.of_block (hc.root hg h hb hblk hnd hl (hv.imp_left λh=>by simp[qaF]at h))⟩
 |.fn _ _,w,w',H,x,cs,fp,b,blk,t,pre,post,p,q,b1,o1,b2,o2,y,z,hw,hg,hg2,h,hb,hblk,hnd,hl,hl2,hc=>by
  obtain⟨rfl,rfl,rfl⟩:=hl2
  exact⟨⟨rfl,rfl,rfl⟩,λhv=>qa3.of_block (hc.root hg h hb hblk hnd hl (hv.imp_left λh=>by simp[qaF]at h))⟩
 |.fn2 _ _ _,w,w',H,x,cs,fp,b,blk,t,pre,post,p,q,b1,o1,b2,o2,y,z,hw,hg,hg2,h,hb,hblk,hnd,hl,hl2,hc=>by
  obtain⟨rfl,rfl,rfl⟩:=hl2
  exact⟨⟨rfl,rfl,rfl⟩,λhv=>qa3.of_block (hc.root hg h hb hblk hnd hl (hv.imp_left λh=>by simp[qaF]at h))⟩
 |.ext _ _ _ _,w,w',H,x,cs,fp,b,blk,t,pre,post,p,q,b1,o1,b2,o2,y,z,hw,hg,hg2,h,hb,hblk,hnd,hl,hl2,hc=>by
  obtain⟨rfl,rfl,rfl⟩:=hl2
  exact⟨⟨rfl,rfl,rfl⟩,λhv=>qa3.of_block (hc.root hg h hb hblk hnd hl (hv.imp_left λh=>by simp[qaF]at h))⟩
theorem qcX:(τ:Ty)->∀{x x':τ.den} {p q:List qq} {σ:Ty} {v:σ.den},j8 p q=true->j1 τ x p σ v=some x'->qP τ x' q=qP τ x q
 |.pair a b,x,x',p,q,σ,v,hw,hs=>by
  match p,q with
  |_,[]=>simp[j8]at hw
  |[],_::_=>simp[j8]at hw
  |.L::p,.L::q=>
   obtain⟨z,hz,rfl⟩:=Option.map_eq_some_iff.1 hs
   exact qcX a (p:=p) (q:=q) hw hz
  |.R::p,.R::q=>
   obtain⟨z,hz,rfl⟩:=Option.map_eq_some_iff.1 hs
   exact qcX b (p:=p) (q:=q) hw hz
  |.L::p,.R::q=>
   obtain⟨z,hz,rfl⟩:=Option.map_eq_some_iff.1 hs
   rfl
  |.R::p,.L::q=>
   obtain⟨z,hz,rfl⟩:=Option.map_eq_some_iff.1 hs
   rfl
  |.I _::_,_::_=>cases hs
  |.L::_,.I _::_=>simp[j8]at hw
  |.R::_,.I _::_=>simp[j8]at hw
 |.str t,x,x',p,q,σ,v,hw,hs=>by
  match p,q with
  |_,[]=>simp[j8]at hw
  |[],_::_=>simp[j8]at hw
  |s::p,s'::q=>exact qcX t (p:=s::p) (q:=s'::q) hw hs
 |.list true _ _,_,_,p,q,_,_,hw,hs=>by
  match p,q with
  |[],_=>simp[j8]at hw
  |.L::_,_=>cases hs
  |.R::_,_=>cases hs
  |.I _::_,_=>simp[j8]at hw
 |.list false _ _,_,_,p,q,_,_,hw,hs=>by
  match p with
  |[]=>simp[j8]at hw
  |_::_=>cases hs
 |.arr _ _,_,_,p,q,_,_,hw,hs=>by
  match p,q with
  |[],_=>simp[j8]at hw
  |.L::_,_=>cases hs
  |.R::_,_=>cases hs
  |.I _::_,_=>simp[j8]at hw
 |.op _,_,_,p,q,_,_,hw,hs=>by
  match p,q with
  |[],_=>simp[j8]at hw
  |.L::_,_=>cases hs
  |.R::_,_=>cases hs
  |.I _::_,_=>simp[j8]at hw
 |.int _,_,_,p,_,_,_,hw,hs=>by
  match p with
  |[]=>simp[j8]at hw
  |_::_=>cases hs
 |.bool,_,_,p,_,_,_,hw,hs=>by
  match p with
  |[]=>simp[j8]at hw
  |_::_=>cases hs
 |.ptr _,_,_,p,_,_,_,hw,hs=>by
  match p with
  |[]=>simp[j8]at hw
  |_::_=>cases hs
 |.fn _ _,_,_,p,_,_,_,hw,hs=>by
  match p with
  |[]=>simp[j8]at hw
  |_::_=>cases hs
 |.fn2 _ _ _,_,_,p,_,_,_,hw,hs=>by
  match p with
  |[]=>simp[j8]at hw
  |_::_=>cases hs
 |.ext _ _ _ _,_,_,p,_,_,_,hw,hs=>by
  match p with
  |[]=>simp[j8]at hw
  |_::_=>cases hs
theorem qcB:(τ:Ty)->∀{x x':τ.den} {p q:List qq} {σ:Ty} {v:σ.den} {y},qa9 p q=true->qP τ x q=some y->j1 τ x p σ v=some x'->∃y',qP τ x' q=some ⟨y.1,y'⟩
 |.pair a b,x,x',p,q,σ,v,y,hw,hg,hs=>by
  match p,q with
  |_,[]=>cases hg;exact⟨x',rfl⟩
  |[],_::_=>simp[qa9]at hw
  |.L::p,.L::q=>
   obtain⟨z,hz,rfl⟩:=Option.map_eq_some_iff.1 hs
   exact qcB a (p:=p) (q:=q) hw hg hz
  |.R::p,.R::q=>
   obtain⟨z,hz,rfl⟩:=Option.map_eq_some_iff.1 hs
   exact qcB b (p:=p) (q:=q) hw hg hz
  |.L::p,.R::q=>
   obtain⟨z,hz,rfl⟩:=Option.map_eq_some_iff.1 hs
   exact⟨y.2,hg⟩
  |.R::p,.L::q=>
   obtain⟨z,hz,rfl⟩:=Option.map_eq_some_iff.1 hs
   exact⟨y.2,hg⟩
  |.I _::_,_::_=>cases hs
  |.L::_,.I _::_=>cases hg
  |.R::_,.I _::_=>cases hg
 |.str t,x,x',p,q,σ,v,y,hw,hg,hs=>by
  match p,q with
  |_,[]=>cases hg;exact⟨x',rfl⟩
  |[],_::_=>simp[qa9]at hw
  |s::p,s'::q=>exact qcB t (p:=s::p) (q:=s'::q) hw hg hs
 |.list true tid e,x,x',p,q,σ,v,y,hw,hg,hs=>by
  match p,q with
  |_,[]=>cases hg;exact⟨x',rfl⟩
  |[],_::_=>simp[qa9]at hw
  |.I i::p,.I j::q=>
   simp only[j1]at hs
   simp only[qP]at hg ⊢
   split at hs
   case isFalse=>cases hs
   split at hg
   case isFalse=>cases hg
   rename_i hj
   rw[if_pos hj]
   obtain⟨z,hz,hs⟩:=Option.bind_eq_some_iff.1 hs
   obtain⟨z',hz',rfl⟩:=Option.map_eq_some_iff.1 hs
   obtain⟨u,hu,hg⟩:=Option.bind_eq_some_iff.1 hg
   by_cases hij:i.toNat=j.toNat
   ·rw[hij]at hz ⊢
    rw[hz]at hu
    cases hu
    obtain⟨y',hy'⟩:=qcB e (p:=p) (q:=q) hw hg hz'
    have hlt:=(List.getElem?_eq_some_iff.1 hz).1
    rw[List.getElem?_set_self hlt]
    exact⟨y',hy'⟩
   ·rw[List.getElem?_set_ne hij,hu]
    exact⟨y.2,hg⟩
  |.L::_,_::_=>cases hs
  |.R::_,_::_=>cases hs
  |.I _::_,.L::_=>cases hg
  |.I _::_,.R::_=>cases hg
 |.arr m e,x,x',p,q,σ,v,y,hw,hg,hs=>by
  match p,q with
  |_,[]=>cases hg;exact⟨x',rfl⟩
  |[],_::_=>simp[qa9]at hw
  |.I i::p,.I j::q=>
   simp only[j1]at hs
   simp only[qP]at hg ⊢
   split at hs
   case isFalse=>cases hs
   split at hg
   case isFalse=>cases hg
   rename_i hj
   rw[if_pos hj]
   obtain⟨z,hz,hs⟩:=Option.bind_eq_some_iff.1 hs
   obtain⟨z',hz',rfl⟩:=Option.map_eq_some_iff.1 hs
   obtain⟨u,hu,hg⟩:=Option.bind_eq_some_iff.1 hg
   by_cases hij:i.toNat=j.toNat
   ·rw[hij]at hz ⊢
    rw[hz]at hu
    cases hu
    obtain⟨y',hy'⟩:=qcB e (p:=p) (q:=q) hw hg hz'
    have hlt:=(List.getElem?_eq_some_iff.1 hz).1
    rw[List.getElem?_set_self hlt]
    exact⟨y',hy'⟩
   ·rw[List.getElem?_set_ne hij,hu]
    exact⟨y.2,hg⟩
  |.L::_,_::_=>cases hs
  |.R::_,_::_=>cases hs
  |.I _::_,.L::_=>cases hg
  |.I _::_,.R::_=>cases hg
 |.op t,x,x',p,q,σ,v,y,hw,hg,hs=>by
  match p,q with
  |_,[]=>cases hg;exact⟨x',rfl⟩
  |[],_::_=>simp[qa9]at hw
  |.I i::p,.I j::q=>
   simp only[j1]at hs
   simp only[qP]at hg ⊢
   obtain⟨z,hz,hs⟩:=Option.bind_eq_some_iff.1 hs
   obtain⟨z',hz',rfl⟩:=Option.map_eq_some_iff.1 hs
   obtain⟨u,hu,hg⟩:=Option.bind_eq_some_iff.1 hg
   rw[hz]at hu
   cases hu
   exact qcB t (p:=p) (q:=q) hw hg hz'
  |.L::_,_::_=>cases hs
  |.R::_,_::_=>cases hs
  |.I _::_,.L::_=>cases hg
  |.I _::_,.R::_=>cases hg
 |.int _,x,x',p,q,σ,v,y,hw,hg,hs=>by
  match q with
  |[]=>cases hg;exact⟨x',rfl⟩
  |_::_=>cases hg
 |.bool,x,x',p,q,σ,v,y,hw,hg,hs=>by
  match q with
  |[]=>cases hg;exact⟨x',rfl⟩
  |_::_=>cases hg
 |.list false _ _,x,x',p,q,σ,v,y,hw,hg,hs=>by
  match q with
  |[]=>cases hg;exact⟨x',rfl⟩
  |_::_=>cases hg
 |.ptr _,x,x',p,q,σ,v,y,hw,hg,hs=>by
  match q with
  |[]=>cases hg;exact⟨x',rfl⟩
  |_::_=>cases hg
 |.fn _ _,x,x',p,q,σ,v,y,hw,hg,hs=>by
  match q with
  |[]=>cases hg;exact⟨x',rfl⟩
  |_::_=>cases hg
 |.fn2 _ _ _,x,x',p,q,σ,v,y,hw,hg,hs=>by
  match q with
  |[]=>cases hg;exact⟨x',rfl⟩
  |_::_=>cases hg
 |.ext _ _ _ _,x,x',p,q,σ,v,y,hw,hg,hs=>by
  match q with
  |[]=>cases hg;exact⟨x',rfl⟩
  |_::_=>cases hg
theorem qK.stay{P:Program}{w w':World}{H:FH}{o:Obj}{φ φ':qB}(hok:qK P w H o φ)(hφ:φ'.b=φ.b/\φ'.hdr=φ.hdr){p q:List qq}{y z}{b1 o1 b2 o2:Nat}(hw:qa9 p q=true)(hg:qP o.τ o.x p=some y)(hg2:qP o.τ o.x q=some z)(hl:jS w o φ p b1 o1)(hl2:jS w o φ q b2 o2)(hc:Chg P w w' H b1 o1 y)(x':o.τ.den):
  jS w' ⟨o.row,o.τ,x'⟩ φ' q b2 o2/\(qaF o.τ p q=true\/w'.heap[b1]? = w.heap[b1]?->qa3 w w' b2 o2 (o2+z.1.size)):=by
 obtain⟨row,τ,x⟩:=o
 cases row with
 |false=>
  obtain⟨_,hnd,blk,t,fp',h4,h5,h6⟩:=hok
  obtain⟨k1,k2⟩:=jO.stay (P:=P) τ (pre:=[]) (post:=[]) hw hg hg2 h5 h4 (by simp) (by rw[<-h6];exact hnd) hl hl2 hc
  refine⟨?_,k2⟩
  show jO w' τ φ'.b 0 q b2 o2
  rw[hφ.1]
  exact k1
 |true=>
  unfold jS at hl hl2
  simp only at hl hl2
  split at hl
  case h_2=>exact hl.elim
  rename_i tid e i p
  match q with
  |[]=>exact hl2.elim
  |.L::_=>exact hl2.elim
  |.R::_=>exact hl2.elim
  |.I j::q=>
   obtain⟨g,n,cap,hh,hloc⟩:=hl
   obtain⟨g',n',cap',hh',hloc'⟩:=hl2
   rw[hh]at hh'
   cases hh'
   obtain⟨k1,k2⟩:=Row.stay (P:=P) (tid:=tid) (λa b c d e' f g h i j=>jO.stay e a b c d e' f g h i j) (p:=p) (q:=q) hw hg hg2 hok.row_list hok.2.1 hh hloc hloc' hc
   exact⟨⟨g,n,cap,by rw[hφ.2];exact hh,k1⟩,k2⟩
theorem qh7{w w':World}{b off n:Nat}{blk blk':Array Value}{t t':TypeId}{f f':Nat×Nat}(h:qa3 w w' b off (off+n))(hb:w.heap[b]? = some (.cells blk t f))(hb':w'.heap[b]? = some (.cells blk' t' f')):seg blk' off n=seg blk off n:=by
 unfold seg
 apply List.ext_getElem?
 intro i
 by_cases hi:i<n
 ·simp only[List.getElem?_take,hi,if_true,List.getElem?_drop]
  have:=h (off+i) (by omega) (by omega)
  rw[qy hb,qy hb',<-Array.getElem?_toList,<-Array.getElem?_toList]at this
  exact this
 ·simp only[List.getElem?_take,hi,if_false]
theorem qK.dat{P:Program}{w:World}{H:FH}{o:Obj}{φ:qB}(h:qK P w H o φ):∀b∈φ.fp,qe0 w b:=by
 obtain⟨_,_,h⟩:=h
 cases hr:o.row with
 |false=>
  rw[hr]at h
  obtain⟨blk,t,fp',h4,h5,h6⟩:=h
  intro b hb
  rw[h6]at hb
  rcases List.mem_cons.1 hb with rfl|hb
  ·exact⟨_,h4,rfl⟩
  ·exact qm.dat _ h5 b hb
 |true=>
  rw[hr]at h
  obtain⟨_,cs,_,h5⟩:=h
  exact qm.dat _ h5
end Go.Vi
