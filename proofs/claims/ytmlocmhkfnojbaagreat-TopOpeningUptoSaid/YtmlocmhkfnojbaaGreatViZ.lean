/- The abstract interpreter Vi, part A, continued: a verified interpreter over the model's code, whose run of a function gives the contract of the function. No condition beyond those typed in each theorem. -/
import Derived.Test.YtmlocmhkfnojbaaGreatViA
namespace Go.Vi
section
variable {P:Program} {C:cM}
theorem Ur:(τ:Ty)->τ.ay=true->∀{p:List qu} {σ:Ty},kq τ p=some σ->σ.ay=true
 |.pair a b,hf,p,σ,h=>by
  have hf':=hf
  simp only[Ty.ay,Bool.and_eq_true]at hf'
  match p with
  |[]=>cases h;exact hf
  |.L::q=>exact Ur a hf'.1 h
  |.R::q=>exact Ur b hf'.2 h
  |.I _::_=>cases h
 |.str t,hf,p,σ,h=>by
  match p with
  |[]=>cases h;exact hf
  |s::q=>exact Ur t hf h
 |.list true tid e,hf,p,σ,h=>by simp[Ty.ay]at hf
 |.arr n e,hf,p,σ,h=>by
  match p with
  |[]=>cases h;exact hf
  |.L::_=>cases h
  |.R::_=>cases h
  |.I _::q=>exact Ur e hf h
 |.int _,hf,p,_,h=>by cases p<;>cases h;exact hf
 |.bool,hf,p,_,h=>by cases p<;>cases h;exact hf
 |.list false _ _,hf,p,_,h=>by cases p<;>cases h;exact hf
 |.ptr _,hf,p,_,h=>by cases p<;>cases h;exact hf
 |.op _,hf,p,_,h=>by simp[Ty.ay]at hf
 |.fn _ _,hf,p,_,h=>by cases p<;>cases h;exact hf
 |.bQ _ _ _,hf,p,_,h=>by cases p<;>cases h;exact hf
 |.ext _ _ _ _,hf,p,_,h=>by cases p<;>cases h;exact hf
theorem Gq:(τ:Ty)->∀{x:τ.den} {p q:List qu} {y},qU τ x p=some y->qU τ x (p++q)=qU y.1 y.2 q
 |.pair a b,x,p,q,y,h=>by
  match p with
  |[]=>cases h;rfl
  |.L::_=>exact Gq a h
  |.R::_=>exact Gq b h
  |.I _::_=>cases h
 |.str t,x,p,q,y,h=>by
  match p with
  |[]=>cases h;rfl
  |s::_=>exact Gq t h
 |.list true tid e,x,p,q,y,h=>by
  match p with
  |[]=>cases h;rfl
  |.L::_=>cases h
  |.R::_=>cases h
  |.I i::r=>
   simp only[qU,List.cons_append]at h ⊢
   split at h
   ·rename_i hi
    rw[if_pos hi]
    obtain⟨z,hz,h⟩:=Option.bind_eq_some_iff.1 h
    rw[hz]
    exact Gq e h
   ·cases h
 |.arr n e,x,p,q,y,h=>by
  match p with
  |[]=>cases h;rfl
  |.L::_=>cases h
  |.R::_=>cases h
  |.I i::r=>
   simp only[qU,List.cons_append]at h ⊢
   split at h
   ·rename_i hi
    rw[if_pos hi]
    obtain⟨z,hz,h⟩:=Option.bind_eq_some_iff.1 h
    rw[hz]
    exact Gq e h
   ·cases h
 |.op t,x,p,q,y,h=>by
  match p with
  |[]=>cases h;rfl
  |.L::_=>cases h
  |.R::_=>cases h
  |.I i::r=>
   simp only[qU,List.cons_append]at h ⊢
   obtain⟨z,rfl,h⟩:=Option.bind_eq_some_iff.1 h
   exact Gq t h
 |.int _,_,p,_,_,h=>by cases p<;>cases h;rfl
 |.bool,_,p,_,_,h=>by cases p<;>cases h;rfl
 |.list false _ _,_,p,_,_,h=>by cases p<;>cases h;rfl
 |.ptr _,_,p,_,_,h=>by cases p<;>cases h;rfl
 |.fn _ _,_,p,_,_,h=>by cases p<;>cases h;rfl
 |.bQ _ _ _,_,p,_,_,h=>by cases p<;>cases h;rfl
 |.ext _ _ _ _,_,p,_,_,h=>by cases p<;>cases h;rfl
theorem jV.append{w:World}{o:Obj}{φ:qH}{p q:List qu}{b off b2 iv:Nat}{σ:Ty}(h:jV w o φ p b off)(ht:kq o.τ p=some σ)(k:jT w σ b off q b2 iv):jV w o φ (p++q) b2 iv:=by
 obtain⟨row,τ,x⟩:=o
 cases row with
 |false=>exact jT.append τ ht h k
 |true=>
  cases τ with
  |list own tid e=>
   cases own with
   |false=>exact h.elim
   |true=>
    match p with
    |[]=>exact h.elim
    |.L::_=>exact h.elim
    |.R::_=>exact h.elim
    |.I i::r=>
     obtain⟨g,n,cap,e1,e2⟩:=h
     exact⟨g,n,cap,e1,jT.append e ht e2 k⟩
  |_=>exact h.elim
theorem qjo:(s:Ty)->∀i,lP s.fz i=lP s i/\uI s.fz i=uI s i
 |.pair a b,0=>⟨rfl,rfl⟩
 |.pair a b,i+1=>by
  have:=qjo b i
  exact⟨congrArg (qu.R :: ·) this.1,this.2⟩
 |.int _,_=>⟨rfl,rfl⟩
 |.bool,_=>⟨rfl,rfl⟩
 |.list _ _ _,_=>⟨rfl,rfl⟩
 |.str _,_=>⟨rfl,rfl⟩
 |.ptr _,_=>⟨rfl,rfl⟩
 |.op _,_=>⟨rfl,rfl⟩
 |.arr _ _,_=>⟨rfl,rfl⟩
 |.fn _ _,_=>⟨rfl,rfl⟩
 |.bQ _ _ _,_=>⟨rfl,rfl⟩
 |.ext _ _ _ _,_=>⟨rfl,rfl⟩
theorem Addr.fB(b o n:Nat):(⟨b,o,none⟩:Addr).add n=⟨b,o+n,none⟩:=by unfold Addr.add;split<;>simp_all
theorem qj2{c:Array Value}{o n:Nat}(h:(ct c o n).length=n)(hn:0<n):∃pre post,c.toList=pre++ct c o n++post/\pre.length=o:=by
 unfold ct at h ⊢
 refine⟨c.toList.take o,(c.toList.drop o).drop n,?_,?_⟩
 ·rw[List.append_assoc,List.take_append_drop,List.take_append_drop]
 ·rw[List.length_take,List.length_drop]at h
  rw[List.length_take];omega
theorem qkE{c:Array Value}{o n k m:Nat}{pre x post:List Value}(h:ct c o n=pre++x++post)(hk:pre.length=k)(hm:x.length=m):ct c (o+k) m=x:=by
 unfold ct at h ⊢
 rw[<-List.drop_drop]
 have e:=List.take_append_drop n (c.toList.drop o)
 rw[h]at e
 rw[<-e,List.append_assoc,List.append_assoc,<-hk,List.drop_left,<-hm,List.take_left]
theorem ZJ{t:TypeId}{fs:Array Field}(hu:P.underlying t=some (.struct fs)){f:Field}{σ:Ty}{i:Nat}(hf:fs.toList[i]? = some f)(ht:qT P f.type σ)(b o:Nat)(w:World):
  (Instr.fieldAt t (.pointer (some ⟨b,o,none⟩)) i).run P w = .ok (.pointer (some ⟨b,o+f.offset,none⟩)) w:=by
 have hf':fs[i]? = some f:=by simpa using hf
 obtain⟨j,h1,h2,h3,_⟩:=ht.info
 have hne:¬j.size=0:=by omega
 simp[Instr.fieldAt,run_underlying hu,hf',Instr.sureAddr,fieldPlace,Go.sizeOf,typeInfo,h1,hne,Addr.fB]
variable {aa:jB} {R:Type} {r:R} {s:St} {a:Act} {w:World} {H:FH} {Φ:Nat->qH} {dst:Option Nat} {ty:TypeId} {pos:String} {after:Array Edge} {guard:Option (Nat×Bool)} {k:St->Option R}
theorem qkU(ae:qx P aa)(hC:qD C aa){T:TypeId}{x:Operand}{i:Nat}(hs:qh P C s a w H Φ)(hd:qK aa.nt dst=true)(h:qM aa ⟨dst,.fieldAddr T x i,ty,pos,after,guard⟩ s k=some r):
  ∃s',k s'=some r/\fG P C ⟨dst,.fieldAddr T x i,ty,pos,after,guard⟩ a w s':=by
 simp only[qM]at h
 split at h
 case h_2=>cases h
 rename_i av he
 have hr:=ql hs qy he
 unfold qjt at h
 split at h
 ·cases h
 rename_i T' hT
 obtain⟨a_,hfz⟩:=ae.ty T T' hT
 split at h
 ·cases h
 rename_i q hq
 unfold qnP at hq
 split at hq
 case h_2=>cases hq
 rename_i t'
 cases hhf:uI t' i with
 |false=>rw[hhf]at hq;cases hq
 |true=>
  rw[hhf]at hq
  cases hq
  split at h
  ·rename_i t y
   cases ht:decide (Ty.str t = .str t')with
   |false=>rw[ht]at h;cases h
   |true=>
    rw[ht,cond_true]at h
    have ht:=of_decide_eq_true ht
    injection ht with ht
    subst ht
    obtain⟨_,b,o,blk,hv,hH,an⟩:=hr
    obtain⟨fs,hu,CB⟩:=a_.str
    obtain⟨f,σ,q1,q2,q3,q4,q5,q6,q7⟩:=CB.at t hhf
    obtain⟨z,g1,g2,pre,c,post,f1,f2,f3,e1,e2,e3,e4⟩:=q7 (show qm P t w H y _ []from an)
    rw[g2]at h
    have ef:f2=[]:=by
     have:=congrArg List.length e2;simp at this;exact List.length_eq_zero_iff.1 (by omega)
    subst ef
    refine⟨_,h,qr hs hC hd (v:=.pointer (some ⟨b,o+f.offset,none⟩)) ⟨Ur t (by simpa[Ty.ay]using hfz) q4,b,o+f.offset,blk,rfl,hH,?_⟩ (λw' _=>by simp[execOp,hv,ZJ hu q1 q3])⟩
    have:=qkE (m:=σ.size) e1 (k:=f.offset) (by rw[e3];omega) (qm.length σ e4)
    rw[this]
    exact e4
  ·rename_i id p
   obtain⟨o,y,b,off,h1,h2,h3,h4,hv⟩:=hr
   rw[h1]at h
   simp only[h2,cond_false]at h
   have kM:=jH _ h3
   rw[kM]at h
   simp only at h
   cases ht:decide (y.1.fz = .str t') && !(lP t' i).isEmpty with
   |false=>rw[ht]at h;cases h
   |true=>
    rw[ht,cond_true]at h
    rw[Bool.and_eq_true]at ht
    obtain⟨ht,hne⟩:=ht
    have ht:=of_decide_eq_true ht
    obtain⟨σ0,y0⟩:=y
    simp only at ht kM
    cases σ0 with
    |str u=>
     injection ht with ht
     subst ht
     obtain⟨fs,hu,CB⟩:=(qT.gw (τ:=.str u) a_).str
     have abl:uI u i=true:=by rw[<-(qjo u i).2];exact hhf
     rw[(qjo u i).1]at hne h
     obtain⟨f,σ,q1,q2,q3,q4,q5,q6,q7⟩:=CB.at u abl
     have hok:=(hs.os id o h1).1
     obtain⟨_,_,_,aX,t',pre',c,post',f1,f',f2,e1,e2,e3,e4,e5,e6,_⟩:=hok.desc (y:=y0) h3 ⟨w,_,_,h4⟩ h2
     obtain⟨z,g1,_⟩:=q7 (show qm P u w H y0 c f' from e6)
     have aaV:qU (.str u) y0 (lP u i)=some ⟨σ,z⟩:=by
      cases nY:lP u i with
      |nil=>rw[nY]at hne;cases hne
      |cons a l=>rw[nY]at g1;exact g1
     have vz:qU o.τ o.x (p++lP u i)=some ⟨σ,z⟩:=by
      rw[Gq _ h3];exact aaV
     have bP:jV w o (Φ id) (p++lP u i) b (off+f.offset):=by
      refine h4.append kM ?_
      have:=q6 w b off
      rw[Nat.sub_zero]at this
      cases nY:lP u i with
      |nil=>rw[nY]at hne;cases hne
      |cons a l=>rw[nY]at this;exact this
     refine⟨_,h,qr hs hC hd (v:=.pointer (some ⟨b,off+f.offset,none⟩)) ⟨o,⟨σ,z⟩,b,off+f.offset,h1,?_,vz,bP,rfl⟩ (λw' _=>by simp[execOp,hv,ZJ hu q1 q3])⟩
     cases nY:lP u i with
     |nil=>rw[nY]at hne;cases hne
     |cons a l=>simp
    |_=>cases ht
  ·cases h
theorem wA{w:World}{H:FH}{Φ:Nat->qH}{os:Nat->Option Obj}{id:Nat}{p:List qu}{v:Value}(h:qi P C w H Φ os (.view id p) v){o:Obj}(ho:os id=some o)(hok:qR P w H o (Φ id)){y}(hy:qU o.τ o.x p=some y):
  ∃cs fp,v=j7 y.1 cs/\qm P y.1 w H y.2 cs fp/\(∀b∈fp,b∈(Φ id).fp)/\fp.Nodup:=by
 obtain⟨o',y',h1,h2,h3⟩:=h
 rw[ho]at h1
 cases h1
 rw[hy]at h2
 cases h2
 cases hr:o.row&&p.isEmpty with
 |true=>
  rw[hr]at h3
  simp only[Bool.and_eq_true,List.isEmpty_iff]at hr
  obtain⟨hrow,rfl⟩:=hr
  rw[qO]at hy
  cases hy
  obtain⟨_,aq,h5⟩:=hok
  rw[hrow]at h5
  obtain⟨_,cs,hcs,h6⟩:=h5
  refine⟨cs,(Φ id).fp,?_,h6,λ_ h=>h,aq⟩
  simp only at h3
  rw[h3]
  exact hcs
 |false=>
  rw[hr]at h3
  obtain⟨b,off,blk,t,h4,h5,h6⟩:=h3
  have aq:=hok.2.1
  obtain⟨b',o',hl,aX,t',pre',c,post',f1,f,f2,e1,e2,e3,e4,e5,e6,_⟩:=hok.desc (y:=y.2) hy ⟨w,_,_,h4⟩ hr
  obtain⟨rfl,rfl⟩:=jV.fN h4 (hl w (λ_ _=>rfl))
  rw[e1]at h5
  cases h5
  refine⟨c,f,?_,e6,λb hb=>by rw[e4];simp[hb],?_⟩
  ·rw[h6,<-e3,qZ e2 (qm.length _ e6)]
  ·rw[e4]at aq
   exact(List.nodup_append.1 (List.nodup_append.1 aq).1).2.1
theorem qkb(hs:qh P C s a w H Φ){id:Nat}{p:List qu}{v:Value}(hr:qi P C w H Φ s.obj (.view id p) v){R:Type}{k:Option R}{r:R}(h:qkO s id p k=some r):
  ∃g,v = .pointer (some ⟨g,0,none⟩)/\qi P C w H Φ s.obj (.ptr id (p++[.I 0])) v/\k=some r:=by
 unfold qkO at h
 split at h
 case h_2=>cases h
 rename_i o ho
 rw[jJ]at h
 obtain⟨⟨σ,y⟩,hy,h⟩:=Option.bind_eq_some_iff.1 h
 simp only at h
 split at h
 case h_2=>cases h
 rename_i t y'
 rw[qj]at h
 obtain⟨z,rfl,h⟩:=Option.bind_eq_some_iff.1 h
 have hok:=(hs.os id o ho).1
 obtain⟨o',y2,q1,q2,q3⟩:=hr
 rw[ho]at q1
 cases q1
 rw[hy]at q2
 cases q2
 cases gW:o.row&&p.isEmpty with
 |true=>
  exfalso
  simp only[Bool.and_eq_true,List.isEmpty_iff]at gW
  obtain⟨hrow,rfl⟩:=gW
  rw[qO]at hy
  obtain⟨_,_,h3⟩:=hok
  rw[hrow]at h3
  obtain⟨row,τ,ox⟩:=o
  simp only[Option.some.injEq,Sigma.mk.injEq]at hy
  obtain⟨rfl,_⟩:=hy
  cases h3.1
 |false=>
  rw[gW]at q3
  obtain⟨b,off,blk,tt,h4,h5,h6⟩:=q3
  obtain⟨b',o',hl,aX,t',pre',c,post',f1,f,f2,e1,e2,e3,e4,e5,e6,_⟩:=hok.desc (σ:=.op t) (y:=(some z:Option t.den)) hy ⟨w,_,_,h4⟩ gW
  obtain⟨rfl,rfl⟩:=jV.fN h4 (hl w (λ_ _=>rfl))
  rw[e1]at h5
  cases h5
  obtain⟨g,CU,gt,aC,rfl,rfl,hg,ye⟩:=e6
  have kN:ct blk off (Ty.op t).size=[.pointer (some ⟨g,0,none⟩)]:=by rw[<-e3];exact qZ e2 rfl
  have hv:v = .pointer (some ⟨g,0,none⟩):=by rw[h6];simp only[kN];rfl
  refine⟨g,hv,⟨o,⟨t,z⟩,g,0,ho,by simp,?_,?_,hv⟩,h⟩
  ·rw[Gq _ hy]
   simp only[qU,Option.bind_some]
   exact qO _ _
  ·refine jV.append h4 (jH _ hy) ⟨g,?_,kV _ _ _ _⟩
   rw[qw e1,<-Array.getElem?_toList,e2,<-e3]
   simp
theorem qlW(ae:qx P aa)(hC:qD C aa){x:Operand}(hs:qh P C s a w H Φ)(hd:qK aa.nt dst=true)(h:qM aa ⟨dst,.nilCheck x,ty,pos,after,guard⟩ s k=some r):
  ∃s',k s'=some r/\fG P C ⟨dst,.nilCheck x,ty,pos,after,guard⟩ a w s':=by
 simp only[qM]at h
 split at h
 ·rename_i τ o he
  rw[qj]at h
  obtain⟨y,rfl,h⟩:=Option.bind_eq_some_iff.1 h
  obtain⟨h1,cs,h2,h3,b,off,blk,h4,h5,h6⟩:=ql hs (ae.fz ty) he
  have hv:a.eval x = .pointer (some ⟨b,off,none⟩):=by rw[h2,h4];rfl
  exact⟨_,h,qr hs hC hd (av:=.ref τ y) (v:=a.eval x) ⟨h1,b,off,blk,hv,h5,h6⟩ (λw' _=>by simp[execOp,hv])⟩
 ·rename_i τ y he
  have hr:=ql hs (ae.fz ty) he
  obtain⟨_,b,off,blk,hv,_⟩:=hr
  exact⟨_,h,qr hs hC hd (ql hs (ae.fz ty) he) (λw' _=>by simp[execOp,hv])⟩
 ·rename_i i p he
  obtain⟨o,y,b,off,_,_,_,_,hv⟩:=ql hs (ae.fz ty) he
  exact⟨_,h,qr hs hC hd (ql hs (ae.fz ty) he) (λw' _=>by simp[execOp,hv])⟩
 ·rename_i i p he
  obtain⟨g,hv,hr,h⟩:=qkb hs (ql hs (ae.fz ty) he) h
  exact⟨_,h,qr hs hC hd (v:=a.eval x) hr (λw' _=>by simp[execOp,hv])⟩
 ·cases h
theorem ZQ{t tid:TypeId}{e:Ty}(hu:P.underlying t=some (.slice tid))(he:qT P tid e){b o n cap:Nat}{i:Int}{ik:IntKind}(h0:0<=i)(hn:i<n)(w:World):
  (Instr.indexAt t (.slice (some ⟨b,o,none⟩) n cap) (.int ik i)).run P w = .ok (.pointer (some ⟨b,o+i.toNat*e.size,none⟩)) w:=by
 obtain⟨j,h1,h2,_⟩:=he.info
 simp[Instr.indexAt,asIntOf,run_underlying hu,h0,hn,Go.sizeOf,typeInfo,h1,h2,Addr.fB]
theorem qc2{t tid:TypeId}{e:Ty}{m:Nat}(hu:P.underlying t=some (.array m tid))(he:qT P tid e){b o:Nat}{i:Int}{ik:IntKind}(h0:0<=i)(hn:i<m)(w:World):
  (Instr.indexAt t (.pointer (some ⟨b,o,none⟩)) (.int ik i)).run P w = .ok (.pointer (some ⟨b,o+i.toNat*e.size,none⟩)) w:=by
 obtain⟨j,h1,h2,_⟩:=he.info
 simp[Instr.indexAt,asIntOf,Instr.sureAddr,run_underlying hu,h0,hn,Go.sizeOf,typeInfo,h1,h2,Addr.fB]
theorem Uk{av:AV}{n:Int}(h:intOf av=some n){v:Value}(hr:qi P C w H Φ s.obj av v):∃k,v = .int k n:=by
 unfold intOf at h
 split at h
 ·cases h;exact⟨_,hr.int⟩
 ·cases h
theorem j5{α R:Type}{l:List α}{i:Int}{k:α->Option R}{r:R}(h:qn l i k=some r):0<=i/\∃x,l[i.toNat]? = some x/\k x=some r:=by
 rw[T_]at h
 split at h
 ·obtain⟨x,h1,h2⟩:=Option.bind_eq_some_iff.1 h
  exact⟨‹_›,x,h1,h2⟩
 ·cases h
theorem qji{R:Type}{i:Int}{n:Nat}{k:Option R}{r:R}(h:bx i n k=some r):0<=i/\i<n/\k=some r:=by
 unfold bx at h
 split at h
 ·exact⟨by omega,by omega,h⟩
 ·cases h
theorem qkT(ae:qx P aa)(hC:qD C aa){T:TypeId}{x ix:Operand}(hs:qh P C s a w H Φ)(hd:qK aa.nt dst=true)(h:qM aa ⟨dst,.indexAddr T x ix,ty,pos,after,guard⟩ s k=some r):
  ∃s',k s'=some r/\fG P C ⟨dst,.indexAddr T x ix,ty,pos,after,guard⟩ a w s':=by
 simp only[qM]at h
 split at h
 case h_2=>cases h
 rename_i av i he hi
 have hr:=ql hs qy he
 obtain⟨iav,NS,hi2⟩:=Option.bind_eq_some_iff.1 hi
 obtain⟨ik,zz⟩:=Uk hi2 (ql hs qy NS)
 unfold qgg at h
 split at h
 ·rename_i own tid e l
  cases hT:decide (lk aa.ty T=some (.list false tid e.fz))with
  |false=>rw[hT]at h;cases h
  |true=>
   rw[hT,cond_true]at h
   obtain⟨a_,_⟩:=ae.ty T _ (of_decide_eq_true hT)
   replace h:=j5 h
   obtain⟨h0,y,hy,h⟩:=h
   obtain⟨hf,cs,hv,an⟩:=hr
   simp only[Ty.ay,Bool.and_eq_true,Bool.not_eq_true']at hf
   obtain⟨rfl,oO⟩:=hf
   rw[Ty.bf e oO]at a_
   obtain⟨_,ad,cap,rfl,hcap,hl⟩:=an
   have hlt:=(List.getElem?_eq_some_iff.1 hy).1
   rcases hl with rfl|⟨b,o,blk,rfl,hH,hch⟩
   ·simp at hlt
   ·obtain⟨pre,c,post,f1,f,f2,e1,e2,e3,e4,e5⟩:=hch.at hy
    have ef:f=[]:=by have:=congrArg List.length e2;simp at this;exact List.length_eq_zero_iff.1 (by omega)
    subst ef
    have eR:pre.length=i.toNat*e.size:=by
     rw[qd.length (n:=e.size) (λ_ _ _ hh=>qm.length e hh) e3,List.length_take,Nat.min_eq_left (Nat.le_of_lt hlt)]
    have gl:a.eval x = .slice (some ⟨b,o,none⟩) (List.length l) cap:=by rw[hv];rfl
    refine⟨_,h,qr hs hC hd (v:=.pointer (some ⟨b,o+i.toNat*e.size,none⟩)) ⟨oO,b,_,blk,rfl,hH,?_⟩ (λw' _=>by
     simp[execOp,gl,zz,ZQ a_.list.1 a_.list.2 h0 (show i<(List.length l:Int) by omega)])⟩
    rw[qkE (m:=e.size) e1 eR (qm.length e e4)]
    exact e4
 ·rename_i n e l
  cases hT:decide (lk aa.ty T=some (.arr n e))with
  |false=>rw[hT]at h;cases h
  |true=>
   rw[hT,cond_true]at h
   obtain⟨a_,hfz⟩:=ae.ty T _ (of_decide_eq_true hT)
   obtain⟨u,hu,Vy⟩:=a_.arr
   obtain⟨h0,y,hy,h⟩:=j5 h
   obtain⟨hf,b,o,blk,hv,hH,Gy,hch⟩:=hr
   have hlt:=(List.getElem?_eq_some_iff.1 hy).1
   obtain⟨pre,c,post,f1,f,f2,e1,e2,e3,e4,e5⟩:=hch.at hy
   have ef:f=[]:=by have:=congrArg List.length e2;simp at this;exact List.length_eq_zero_iff.1 (by omega)
   subst ef
   have eR:pre.length=i.toNat*e.size:=by
    rw[qd.length (n:=e.size) (λ_ _ _ hh=>qm.length e hh) e3,List.length_take,Nat.min_eq_left (Nat.le_of_lt hlt)]
   refine⟨_,h,qr hs hC hd (v:=.pointer (some ⟨b,o+i.toNat*e.size,none⟩)) ⟨by simpa[Ty.ay]using hfz,b,_,blk,rfl,hH,?_⟩ (λw' _=>by
    simp[execOp,hv,zz,qc2 hu Vy h0 (show i<(n:Int) by rw[<-Gy];omega)])⟩
   rw[qkE (m:=e.size) e1 eR (qm.length e e4)]
   exact e4
 ·rename_i id p
  split at h
  case h_2=>cases h
  rename_i o ho
  rw[jJ]at h
  obtain⟨y,hy,h⟩:=Option.bind_eq_some_iff.1 h
  obtain⟨σ,y⟩:=y
  simp only at h
  split at h
  case h_2=>cases h
  rename_i own tid e l
  cases hT:own&&(decide (lk aa.ty T=some (.list false tid e.fz)))with
  |false=>rw[hT]at h;cases h
  |true=>
   rw[hT,cond_true]at h
   rw[Bool.and_eq_true]at hT
   obtain⟨rfl,hT⟩:=hT
   obtain⟨a_,_⟩:=ae.ty T _ (of_decide_eq_true hT)
   have my:=qT.gw (τ:=.list false tid e) a_
   obtain⟨h0,hlt,h⟩:=qji h
   have hok:=(hs.os id o ho).1
   have ym:i.toNat<List.length l:=by omega
   have vz:∃z,qU o.τ o.x (p++[.I i])=some ⟨e,z⟩:=by
    refine⟨l[i.toNat],?_⟩
    rw[Gq _ hy]
    simp only[qU,if_pos h0,List.getElem?_eq_getElem ym,Option.bind_some,qO]
   obtain⟨z,vz⟩:=vz
   have bP:∃g n cap,a.eval x = .slice (some ⟨g,0,none⟩) n cap/\i<n/\jV w o (Φ id) (p++[.I i]) g (i.toNat*e.size):=by
    obtain⟨o',y',h1,h2,h3⟩:=hr
    rw[ho]at h1
    cases h1
    cases gW:o.row&&p.isEmpty with
    |true=>
     rw[gW]at h3
     simp only[Bool.and_eq_true,List.isEmpty_iff]at gW
     obtain⟨hrow,rfl⟩:=gW
     rw[qO]at hy
     obtain⟨row,τ,xo⟩:=o
     simp only at hrow
     subst hrow
     simp only[Option.some.injEq,Sigma.mk.injEq]at hy
     obtain⟨rfl,Cc⟩:=hy
     simp only[heq_eq_eq]at Cc
     subst Cc
     obtain⟨ax,xs,aC,q1,q2,q3,q4⟩:=hok.dz
     have hh:(Φ id).ax=ax:=by simpa using q1
     rcases q3.2 with⟨rfl,hz⟩|⟨g,cap,cur,rfl,_⟩
     ·have mv:List.length xo=0:=hz
      omega
     ·simp only at h3
      exact⟨g,List.length xo,cap,by rw[h3,hh],hlt,⟨g,List.length xo,cap,hh,kV _ _ _ _⟩⟩
    |false=>
     rw[gW]at h3
     rw[hy]at h2
     cases h2
     obtain⟨b,off,blk,t,h4,h5,h6⟩:=h3
     obtain⟨b',o',hl,aX,t',pre',c,post',f1,f,f2,e1,e2,e3,e4,e5,e6,_⟩:=hok.desc (y:=l) hy ⟨w,_,_,h4⟩ gW
     obtain⟨rfl,rfl⟩:=jV.fN h4 (hl w (λ_ _=>rfl))
     rw[e1]at h5
     cases h5
     obtain⟨ax,xs,aC,rfl,q2,q3,q4⟩:=e6
     rcases q3.2 with⟨rfl,hz⟩|⟨g,cap,cur,rfl,_⟩
     ·omega
     ·refine⟨g,List.length l,cap,?_,hlt,h4.append (jH _ hy) ⟨g,List.length l,cap,?_,kV _ _ _ _⟩⟩
      ·rw[h6,<-e3];exact congrArg (j7 (.list true tid e)) (qZ (n:=1) e2 rfl)
      ·rw[qw e1,<-Array.getElem?_toList,e2,<-e3];simp
   obtain⟨g,n,cap,hv,hin,bP⟩:=bP
   refine⟨_,h,qr hs hC hd (v:=.pointer (some ⟨g,0+i.toNat*e.size,none⟩)) ⟨o,⟨e,z⟩,g,i.toNat*e.size,ho,by simp,vz,bP,by simp⟩ (λw' _=>by
    simp[execOp,hv,zz,ZQ my.list.1 my.list.2 h0 hin])⟩
 ·rename_i id p
  obtain⟨o,y,b,off,h1,h2,h3,h4,hv⟩:=hr
  rw[h1]at h
  simp only[h2,cond_false]at h
  have kM:=jH _ h3
  rw[kM]at h
  obtain⟨σ,y⟩:=y
  simp only at h kM
  split at h
  case h_2=>cases h
  rename_i n e he'
  cases he'
  cases hT:decide (lk aa.ty T=some (.arr n e.fz))with
  |false=>rw[hT]at h;cases h
  |true=>
   rw[hT,cond_true]at h
   obtain⟨a_,_⟩:=ae.ty T _ (of_decide_eq_true hT)
   obtain⟨u,hu,Vy⟩:=(qT.gw (τ:=.arr n e) a_).arr
   obtain⟨h0,hlt,h⟩:=qji h
   have hok:=(hs.os id o h1).1
   obtain⟨_,_,_,aX,t',pre',c,post',f1,f',f2,e1,e2,e3,e4,e5,e6,_⟩:=hok.desc (y:=y) h3 ⟨w,_,_,h4⟩ h2
   have ym:i.toNat<List.length y:=by rw[e6.1];omega
   have vz:qU o.τ o.x (p++[.I i])=some ⟨e,y[i.toNat]⟩:=by
    rw[Gq _ h3]
    simp only[qU,if_pos h0,List.getElem?_eq_getElem ym,Option.bind_some,qO]
   refine⟨_,h,qr hs hC hd (v:=.pointer (some ⟨b,off+i.toNat*e.size,none⟩)) ⟨o,⟨e,y[i.toNat]⟩,b,off+i.toNat*e.size,h1,by simp,vz,h4.append kM (kV _ _ _ _),rfl⟩ (λw' _=>by
    simp[execOp,hv,zz,qc2 hu Vy h0 hlt])⟩
 ·cases h
end
section
variable {P:Program}
theorem jT.kR:(τ:Ty)->∀{w:World} {H:FH} {x:τ.den} {cs:List Value} {fp:List Nat} {b:Nat} {blk:Array Value} {t:TypeId} {pre post:List Value} {p:List qu} {b1 o1:Nat} {y:Σ σ:Ty,σ.den},qU τ x p=some y->qm P τ w H x cs fp->w.heap[b]? = some (.cells blk t (0,0))->blk.toList=pre++cs++post->jT w τ b pre.length p b1 o1->
  (b1=b/\pre.length<=o1/\o1+y.1.size<=pre.length+τ.size)\/b1∈fp
 |.pair u v,w,H,x,cs,fp,b,blk,t,pre,post,p,b1,o1,y,hg,h,hb,hblk,hl=>by
  match p with
  |[]=>cases hg;exact .inl ⟨hl.1,by have:=hl.2;omega,by have:=hl.2;simp only;omega⟩
  |.I _::_=>cases hg
  |.L::q=>
   obtain⟨c1,c2,g1,g2,rfl,rfl,h1,h2⟩:=h
   rcases jT.kR u (p:=q) (pre:=pre) (post:=c2++post) hg h1 hb (by rw[hblk];simp) hl with⟨k1,k2,k3⟩|k
   ·exact .inl ⟨k1,k2,by simp only[Ty.size];omega⟩
   ·exact .inr (List.mem_append_left _ k)
  |.R::q=>
   obtain⟨c1,c2,g1,g2,rfl,rfl,h1,h2⟩:=h
   have hc1:=qm.length u h1
   have hl':jT w v b (pre++c1).length q b1 o1:=by rw[List.length_append,hc1];exact hl
   rcases jT.kR v (p:=q) (pre:=pre++c1) (post:=post) hg h2 hb (by rw[hblk];simp) hl' with⟨k1,k2,k3⟩|k
   ·rw[List.length_append,hc1]at k2 k3
    exact .inl ⟨k1,by omega,by simp only[Ty.size];omega⟩
   ·exact .inr (List.mem_append_right _ k)
 |.str s,w,H,x,cs,fp,b,blk,t,pre,post,p,b1,o1,y,hg,h,hb,hblk,hl=>by
  match p with
  |[]=>cases hg;exact .inl ⟨hl.1,by have:=hl.2;omega,by have:=hl.2;simp only;omega⟩
  |a::q=>exact jT.kR s (p:=a::q) hg h hb hblk hl
 |.list true tid e,w,H,x,cs,fp,b,blk,t,pre,post,p,b1,o1,y,hg,h,hb,hblk,hl=>by
  match p with
  |[]=>cases hg;exact .inl ⟨hl.1,by have:=hl.2;omega,by have:=hl.2;simp only;omega⟩
  |.L::_=>cases hg
  |.R::_=>cases hg
  |.I i::q=>
   obtain⟨g,n,cap,hcell,bP⟩:=hl
   simp only[qU]at hg
   split at hg
   case isFalse=>cases hg
   obtain⟨z,hz,hg⟩:=Option.bind_eq_some_iff.1 hg
   obtain⟨ax,xs,aC,rfl,rfl,ho,hch⟩:=h
   rw[qw hb,<-Array.getElem?_toList,hblk]at hcell
   simp only[List.append_assoc,Nat.le_refl,List.getElem?_append_right,Nat.sub_self,List.singleton_append,List.getElem?_cons_zero,Option.some.injEq]at hcell
   subst hcell
   rcases ho.2 with⟨e0,_⟩|⟨gb,cap',cur,e0,II,gZ,hcap,wU,hsz,cC⟩
   ·cases e0
   ·cases e0
    obtain⟨bD,c2,bS,g1,gg,g2,rfl,rfl,ht1,h2,ht2⟩:=qd.at hch hz
    have hlen:i.toNat<List.length x:=(List.getElem?_eq_some_iff.1 hz).1
    have eR:bD.length=i.toNat*e.size:=by
     rw[qd.length (n:=e.size) (λ_ _ _ hh=>qm.length e hh) ht1,List.length_take,Nat.min_eq_left (Nat.le_of_lt hlen)]
    have fL:cur.toList=bD++c2++(bS++cur.toList.drop (List.length x*e.size)):=by
     have e9:=(List.take_append_drop (List.length x*e.size) cur.toList).symm
     rw[cC]at e9
     exact e9.trans (by simp only[List.append_assoc])
    rw[<-eR]at bP
    right
    rcases jT.kR e (p:=q) hg h2 gZ fL bP with⟨k1,_⟩|k
    ·rw[k1]
     simp[Value.ownBlock]
    ·simp[k]
 |.arr n e,w,H,x,cs,fp,b,blk,t,pre,post,p,b1,o1,y,hg,h,hb,hblk,hl=>by
  match p with
  |[]=>cases hg;exact .inl ⟨hl.1,by have:=hl.2;omega,by have:=hl.2;simp only;omega⟩
  |.L::_=>cases hg
  |.R::_=>cases hg
  |.I i::q=>
   simp only[qU]at hg
   split at hg
   case isFalse=>cases hg
   obtain⟨z,hz,hg⟩:=Option.bind_eq_some_iff.1 hg
   obtain⟨Gy,hch⟩:=h
   obtain⟨bD,c2,bS,g1,g,g2,rfl,rfl,ht1,h2,ht2⟩:=qd.at hch hz
   have hlen:i.toNat<List.length x:=(List.getElem?_eq_some_iff.1 hz).1
   have eR:bD.length=i.toNat*e.size:=by
    rw[qd.length (n:=e.size) (λ_ _ _ hh=>qm.length e hh) ht1,List.length_take,Nat.min_eq_left (Nat.le_of_lt hlen)]
   have hl':jT w e b (pre++bD).length q b1 o1:=by rw[List.length_append,eR];exact hl
   have hmul:i.toNat*e.size+e.size<=n*e.size:=by
    rw[<-Nat.succ_mul]
    exact Nat.mul_le_mul_right _ (by omega)
   rcases jT.kR e (p:=q) (pre:=pre++bD) (post:=bS++post) hg h2 hb (by rw[hblk];simp) hl' with⟨k1,k2,k3⟩|k
   ·rw[List.length_append,eR]at k2 k3
    exact .inl ⟨k1,by omega,by simp only[Ty.size];omega⟩
   ·exact .inr (by simp[k])
 |.op s,w,H,x,cs,fp,b,blk,t,pre,post,p,b1,o1,y,hg,h,hb,hblk,hl=>by
  match p with
  |[]=>cases hg;exact .inl ⟨hl.1,by have:=hl.2;omega,by have:=hl.2;simp only;omega⟩
  |.L::_=>cases hg
  |.R::_=>cases hg
  |.I i::q=>
   obtain⟨g,hcell,bP⟩:=hl
   simp only[qU]at hg
   obtain⟨z,rfl,hg⟩:=Option.bind_eq_some_iff.1 hg
   obtain⟨gb,CU,gt,aC,rfl,rfl,gZ,ye⟩:=h
   rw[qw hb,<-Array.getElem?_toList,hblk]at hcell
   simp only[List.append_assoc,Nat.le_refl,List.getElem?_append_right,Nat.sub_self,List.singleton_append,List.getElem?_cons_zero,Option.some.injEq]at hcell
   cases hcell
   right
   rcases jT.kR s (p:=q) (pre:=[]) (post:=[]) hg ye gZ (by simp) bP with⟨k1,_⟩|k
   ·rw[k1];simp
   ·simp[k]
 |.int _,_,_,_,_,_,_,_,_,_,_,p,_,_,_,hg,_,_,_,hl=>by obtain⟨rfl,h1,h2⟩:=hl;cases hg;exact .inl ⟨h1,by omega,by simp only;omega⟩
 |.bool,_,_,_,_,_,_,_,_,_,_,p,_,_,_,hg,_,_,_,hl=>by obtain⟨rfl,h1,h2⟩:=hl;cases hg;exact .inl ⟨h1,by omega,by simp only;omega⟩
 |.list false _ _,_,_,_,_,_,_,_,_,_,_,p,_,_,_,hg,_,_,_,hl=>by obtain⟨rfl,h1,h2⟩:=hl;cases hg;exact .inl ⟨h1,by omega,by simp only;omega⟩
 |.ptr _,_,_,_,_,_,_,_,_,_,_,p,_,_,_,hg,_,_,_,hl=>by obtain⟨rfl,h1,h2⟩:=hl;cases hg;exact .inl ⟨h1,by omega,by simp only;omega⟩
 |.fn _ _,_,_,_,_,_,_,_,_,_,_,p,_,_,_,hg,_,_,_,hl=>by obtain⟨rfl,h1,h2⟩:=hl;cases hg;exact .inl ⟨h1,by omega,by simp only;omega⟩
 |.bQ _ _ _,_,_,_,_,_,_,_,_,_,_,p,_,_,_,hg,_,_,_,hl=>by obtain⟨rfl,h1,h2⟩:=hl;cases hg;exact .inl ⟨h1,by omega,by simp only;omega⟩
 |.ext _ _ _ _,_,_,_,_,_,_,_,_,_,_,p,_,_,_,hg,_,_,_,hl=>by obtain⟨rfl,h1,h2⟩:=hl;cases hg;exact .inl ⟨h1,by omega,by simp only;omega⟩
end
theorem AE{P:Program}{tid:Nat}{e:Ty}{w:World}{H:FH}{x:List e.den}{ax:Value}{fp:List Nat}{b off:Nat}{i:Int}{q:List qu}{b1 o1:Nat}{y:Σ σ:Ty,σ.den}
  (hg:qU (.list true tid e) x (.I i::q)=some y) (h:qm P (.list true tid e) w H x [ax] fp) (hc:w.cell? ⟨b,off,none⟩=some ax) (hl:jT w (.list true tid e) b off (.I i::q) b1 o1):b1∈fp:=by
 obtain⟨g,n,cap,hcell,bP⟩:=hl
 simp only[qU]at hg
 split at hg
 case isFalse=>cases hg
 obtain⟨z,hz,hg⟩:=Option.bind_eq_some_iff.1 hg
 obtain⟨ry,xs,aC,e1,rfl,ho,hch⟩:=h
 obtain rfl:ax=ry:=by simpa using e1
 rw[hc]at hcell
 cases hcell
 rcases ho.2 with⟨e0,_⟩|⟨gb,cap',cur,e0,II,gZ,hcap,wU,hsz,cC⟩
 ·cases e0
 ·cases e0
  obtain⟨bD,c2,bS,g1,gg,g2,rfl,rfl,ht1,h2,ht2⟩:=qd.at hch hz
  have hlen:i.toNat<List.length x:=(List.getElem?_eq_some_iff.1 hz).1
  have eR:bD.length=i.toNat*e.size:=by
   rw[qd.length (n:=e.size) (λ_ _ _ hh=>qm.length e hh) ht1,List.length_take,Nat.min_eq_left (Nat.le_of_lt hlen)]
  have fL:cur.toList=bD++c2++(bS++cur.toList.drop (List.length x*e.size)):=by
   have e9:=(List.take_append_drop (List.length x*e.size) cur.toList).symm
   rw[cC]at e9
   exact e9.trans (by simp only[List.append_assoc])
  rw[<-eR]at bP
  rcases jT.kR e (p:=q) hg h2 gZ fL bP with⟨k1,_⟩|k
  ·rw[k1]
   simp[Value.ownBlock]
  ·simp[k]
theorem qlB:∀τ:Ty,cK τ []=false
 |.pair _ _=>rfl
 |.str t=>qlB t
 |.list true _ _=>rfl
 |.list false _ _=>rfl
 |.arr _ _=>rfl
 |.int _=>rfl
 |.bool=>rfl
 |.ptr _=>rfl
 |.op _=>rfl
 |.fn _ _=>rfl
 |.bQ _ _ _=>rfl
 |.ext _ _ _ _=>rfl
theorem YZ{P:Program}:(τ:Ty)->∀{w:World} {H:FH} {x:τ.den} {cs:List Value} {fp:List Nat} {b:Nat} {blk:Array Value} {t:TypeId} {pre post:List Value} {p:List qu} {b1 o1:Nat} {y:Σ σ:Ty,σ.den},cK τ p=true->qU τ x p=some y->qm P τ w H x cs fp->w.heap[b]? = some (.cells blk t (0,0))->blk.toList=pre++cs++post->
  jT w τ b pre.length p b1 o1->b1∈fp
 |.pair u v,w,H,x,cs,fp,b,blk,t,pre,post,p,b1,o1,y,hd,hg,h,hb,hblk,h1=>by
  obtain⟨c1,c2,g1,g2,rfl,rfl,r1,r2⟩:=h
  have hc1:=qm.length u r1
  match p with
  |.L::p=>exact List.mem_append_left _ (YZ u (p:=p) (pre:=pre) (post:=c2++post) hd hg r1 hb (by rw[hblk];simp) h1)
  |.R::p=>
   have zG:jT w v b (pre++c1).length p b1 o1:=by rw[List.length_append,hc1];exact h1
   exact List.mem_append_right _ (YZ v (p:=p) (pre:=pre++c1) (post:=post) hd hg r2 hb (by rw[hblk];simp) zG)
  |[]=>simp[cK]at hd
  |.I _::_=>simp[cK]at hd
 |.str s,w,H,x,cs,fp,b,blk,t,pre,post,p,b1,o1,y,hd,hg,h,hb,hblk,h1=>by
  have hd:cK s p=true:=hd
  match p with
  |a::p=>exact YZ s (p:=a::p) hd hg h hb hblk h1
  |[]=>rw[qlB]at hd;cases hd
 |.list true tid e,w,H,x,cs,fp,b,blk,t,pre,post,p,b1,o1,y,hd,hg,h,hb,hblk,h1=>by
  match p with
  |.I i::p=>
   obtain⟨ax,xs,aC,rfl,k⟩:=h
   have hcell:w.cell? ⟨b,pre.length,none⟩=some ax:=by
    rw[qw hb,<-Array.getElem?_toList,hblk]
    simp
   exact AE hg ⟨ax,xs,aC,rfl,k⟩ hcell h1
  |[]=>simp[cK]at hd
  |.L::_=>simp[cK]at hd
  |.R::_=>simp[cK]at hd
 |.op s,w,H,x,cs,fp,b,blk,t,pre,post,p,b1,o1,y,hd,hg,h,hb,hblk,h1=>by
  match p with
  |.I i::p=>
   rcases jT.kR (.op s) (p:=.I i::p) hg h hb hblk h1 with⟨k1,_⟩|k
   ·obtain⟨g,hcell,bP⟩:=h1
    simp only[qU]at hg
    obtain⟨z,rfl,hg⟩:=Option.bind_eq_some_iff.1 hg
    obtain⟨gb,CU,gt,aC,rfl,rfl,gZ,ye⟩:=h
    rw[qw hb,<-Array.getElem?_toList,hblk]at hcell
    simp only[List.append_assoc,Nat.le_refl,List.getElem?_append_right,Nat.sub_self,List.singleton_append,List.getElem?_cons_zero,Option.some.injEq]at hcell
    cases hcell
    rcases jT.kR s (p:=p) (pre:=[]) (post:=[]) hg ye gZ (by simp) bP with⟨k1,_⟩|k
    ·rw[k1];simp
    ·simp[k]
   ·exact k
  |[]=>simp[cK]at hd
  |.L::_=>simp[cK]at hd
  |.R::_=>simp[cK]at hd
 |.list false _ _,_,_,_,_,_,_,_,_,_,_,_,_,_,_,hd,_,_,_,_,_=>by simp[cK]at hd
 |.arr _ _,_,_,_,_,_,_,_,_,_,_,_,_,_,_,hd,_,_,_,_,_=>by simp[cK]at hd
 |.int _,_,_,_,_,_,_,_,_,_,_,_,_,_,_,hd,_,_,_,_,_=>by simp[cK]at hd
 |.bool,_,_,_,_,_,_,_,_,_,_,_,_,_,_,hd,_,_,_,_,_=>by simp[cK]at hd
 |.ptr _,_,_,_,_,_,_,_,_,_,_,_,_,_,_,hd,_,_,_,_,_=>by simp[cK]at hd
 |.fn _ _,_,_,_,_,_,_,_,_,_,_,_,_,_,_,hd,_,_,_,_,_=>by simp[cK]at hd
 |.bQ _ _ _,_,_,_,_,_,_,_,_,_,_,_,_,_,_,hd,_,_,_,_,_=>by simp[cK]at hd
 |.ext _ _ _ _,_,_,_,_,_,_,_,_,_,_,_,_,_,_,hd,_,_,_,_,_=>by simp[cK]at hd
theorem Uy:(τ:Ty)->∀{p:List qu},kX τ p []=true->cK τ p=true
 |.pair _ _,p,h=>by
  match p with
  |[]=>exact h
  |.L::_=>exact h
  |.R::_=>exact h
  |.I _::_=>exact h
 |.str t,p,h=>Uy t h
 |.list true _ _,p,h=>by
  match p with
  |[]=>cases h
  |.L::_=>cases h
  |.R::_=>cases h
  |.I _::_=>rfl
 |.op _,p,h=>by
  match p with
  |[]=>cases h
  |.L::_=>cases h
  |.R::_=>cases h
  |.I _::_=>rfl
 |.arr _ _,p,h=>by
  match p with
  |[]=>cases h
  |.L::_=>cases h
  |.R::_=>cases h
  |.I _::_=>cases h
 |.list false _ _,_,h=>by cases h
 |.int _,_,h=>by cases h
 |.bool,_,h=>by cases h
 |.ptr _,_,h=>by cases h
 |.fn _ _,_,h=>by cases h
 |.bQ _ _ _,_,h=>by cases h
 |.ext _ _ _ _,_,h=>by cases h
theorem HA:(τ:Ty)->∀{p q:List qu},kX τ p q=true->jl p q=true
 |.pair a b,p,q,h=>by
  match p,q with
  |_,[]=>simp[jl]
  |[],_::_=>cases h
  |.L::p,.L::q=>exact HA a (p:=p) (q:=q) h
  |.R::p,.R::q=>exact HA b (p:=p) (q:=q) h
  |.L::_,.R::_=>rfl
  |.R::_,.L::_=>rfl
  |.I _::_,_::_=>cases h
  |.L::_,.I _::_=>cases h
  |.R::_,.I _::_=>cases h
 |.str t,p,q,h=>HA t (p:=p) (q:=q) h
 |.list true _ e,p,q,h=>by
  match p,q with
  |_,[]=>simp[jl]
  |.I _::p,.I _::q=>exact HA e (p:=p) (q:=q) h
  |[],_::_=>cases h
  |.L::_,_::_=>cases h
  |.R::_,_::_=>cases h
  |.I _::_,.L::_=>cases h
  |.I _::_,.R::_=>cases h
 |.op t,p,q,h=>by
  match p,q with
  |_,[]=>simp[jl]
  |.I _::p,.I _::q=>exact HA t (p:=p) (q:=q) h
  |[],_::_=>cases h
  |.L::_,_::_=>cases h
  |.R::_,_::_=>cases h
  |.I _::_,.L::_=>cases h
  |.I _::_,.R::_=>cases h
 |.arr _ e,p,q,h=>by
  match p,q with
  |_,[]=>simp[jl]
  |.I _::p,.I _::q=>exact HA e (p:=p) (q:=q) h
  |[],_::_=>cases h
  |.L::_,_::_=>cases h
  |.R::_,_::_=>cases h
  |.I _::_,.L::_=>cases h
  |.I _::_,.R::_=>cases h
 |.list false _ _,_,_,h=>by cases h
 |.int _,_,_,h=>by cases h
 |.bool,_,_,h=>by cases h
 |.ptr _,_,_,h=>by cases h
 |.fn _ _,_,_,h=>by cases h
 |.bQ _ _ _,_,_,h=>by cases h
 |.ext _ _ _ _,_,_,h=>by cases h
theorem qd.at2{α:Type}{R:α->List Value->List Nat->Prop}{n:Nat}(hn:∀x c f,R x c f->c.length=n){l:List α}{xs fp}(h:qd R l xs fp){i j:Nat}{x y:α}(hi:l[i]? = some x)(hj:l[j]? = some y)(hij:i<j):
  ∃p1 ci p2 cj p3 f1 fi f2 fj f3,xs=p1++ci++(p2++cj++p3)/\fp=f1++fi++(f2++fj++f3)/\p1.length=i*n/\(p1++ci++p2).length=j*n/\R x ci fi/\R y cj fj:=by
 obtain⟨p1,ci,post,f1,fi,g,rfl,rfl,h1,h2,h3⟩:=qd.at h hi
 have kE:=(List.getElem?_eq_some_iff.1 hi).1
 have hjl:=(List.getElem?_eq_some_iff.1 hj).1
 have hj':(l.drop (i+1))[j-(i+1)]? = some y:=by
  rw[List.getElem?_drop,<-hj]
  congr 1
  omega
 obtain⟨p2,cj,p3,f2,fj,f3,rfl,rfl,h4,h5,_⟩:=qd.at h3 hj'
 have l1:p1.length=i*n:=by rw[qd.length hn h1,List.length_take,Nat.min_eq_left (Nat.le_of_lt kE)]
 have l2:p2.length=(j-(i+1))*n:=by
  rw[qd.length hn h4,List.length_take,List.length_drop,Nat.min_eq_left (by omega)]
 refine⟨p1,ci,p2,cj,p3,f1,fi,f2,fj,f3,rfl,rfl,l1,?_,h2,h5⟩
 rw[List.length_append,List.length_append,l1,l2,hn _ _ _ h2]
 have:j=i+1+(j-(i+1)):=by omega
 rw[this,Nat.add_mul,Nat.add_mul]
 have e9:i+1+(j-(i+1))-(i+1)=j-(i+1):=by omega
 rw[e9]
 omega
theorem qd.cg{α:Type}{R:α->List Value->List Nat->Prop}{n:Nat}(hn:∀x c f,R x c f->c.length=n)(hd:∀x c f f',R x c f->R x c f'->f=f'):∀{l:List α} {xs fp aC},qd R l xs fp->qd R l xs aC->fp=aC
 |[],_,_,_,⟨_,e⟩,⟨_,e'⟩=>by rw[e,e']
 |_::_,_,_,_,⟨c,xs',f,g,e1,e2,h1,h2⟩,⟨c',acj,f',g',Di,vF,zG,Sx⟩=>by
  obtain⟨rfl,rfl⟩:=List.append_inj (e1.symm.trans Di) ((hn _ _ _ h1).trans (hn _ _ _ zG).symm)
  rw[e2,vF,hd _ _ _ _ h1 zG,qd.cg hn hd h2 Sx]
theorem qY.cg{P:Program}{own:Bool}{i j:Nat}{w:World}{H:FH}:{n:Nat}->{x:qc6 n}->{cs:List Value}->{fp aC:List Nat}->qY P own i j w H n x cs fp->qY P own i j w H n x cs aC->fp=aC
 |0,x,cs,fp,aC,h,h'=>by
  cases own with
  |false=>rw[qY.dg (n:=0) h,qY.dg (n:=0) h']
  |true=>
   cases x with
   |none=>exact h.2.trans h'.2.symm
   |some kv=>
    obtain⟨b,e,e2,_⟩:=h
    obtain⟨b',e',vF,_⟩:=h'
    rw[e]at e'
    cases e'
    exact e2.trans vF.symm
 |1,x,cs,fp,aC,h,h'=>by
  cases own with
  |false=>exact h.1.trans h'.1.symm
  |true=>
   cases x with
   |none=>exact h.2.trans h'.2.symm
   |some kv=>
    obtain⟨b,e,e2,_⟩:=h
    obtain⟨b',e',vF,_⟩:=h'
    rw[e]at e'
    cases e'
    exact e2.trans vF.symm
 |2,x,cs,fp,aC,h,h'=>h.2.trans h'.2.symm
 |3,x,cs,fp,aC,h,h'=>by
  cases own with
  |false=>exact h.1.trans h'.1.symm
  |true=>
   obtain⟨b,e,e2,_⟩:=h
   obtain⟨b',e',vF,_⟩:=h'
   rw[e]at e'
   cases e'
   exact e2.trans vF.symm
 |4,x,cs,fp,aC,h,h'=>by
  cases own with
  |false=>exact h.1.trans h'.1.symm
  |true=>
   cases x with
   |none=>exact h.2.trans h'.2.symm
   |some l=>
    obtain⟨b,tt,ax,e,e2,e3,_⟩:=h
    obtain⟨b',tt',ry,e',vF,e3',_⟩:=h'
    rw[e]at e'
    cases e'
    rw[e3]at e3'
    cases e3'
    exact e2.trans vF.symm
 |n+5,x,cs,fp,aC,h,h'=>by
  cases own with
  |false=>exact h.1.trans h'.1.symm
  |true=>
   cases x with
   |none=>exact h.1.trans h'.1.symm
   |some l=>
    obtain⟨ax,xs,e,e2,_⟩:=h
    obtain⟨ry,xs',e',vF,_⟩:=h'
    rw[e]at e'
    cases e'
    exact e2.trans vF.symm
theorem qm.cg{P:Program}:(τ:Ty)->∀{w:World} {H:FH} {x:τ.den} {cs:List Value} {fp aC:List Nat},qm P τ w H x cs fp->qm P τ w H x cs aC->fp=aC
 |.int _,_,_,_,_,_,_,h,h'=>h.2.trans h'.2.symm
 |.bool,_,_,_,_,_,_,h,h'=>h.2.trans h'.2.symm
 |.list false _ _,_,_,_,_,_,_,h,h'=>h.1.trans h'.1.symm
 |.list true _ e,w,H,_,_,_,_,h,h'=>by
  obtain⟨ax,xs,f,rfl,rfl,ho,hch⟩:=h
  obtain⟨ry,xs',f',e1,rfl,ho',N_⟩:=h'
  obtain rfl:ax=ry:=by simpa using e1
  have hxs:xs=xs':=by
   rcases ho.2 with⟨rfl,h0⟩|⟨g,cap,cur,rfl,_,hg,_,_,_,ht⟩
   ·have a1:=ho.1
    have a2:=ho'.1
    rw[h0,Nat.zero_mul]at a1 a2
    rw[List.eq_nil_of_length_eq_zero a1,List.eq_nil_of_length_eq_zero a2]
   ·rcases ho'.2 with⟨e0,_⟩|⟨g',cap',acz,e0,_,uQ,_,_,_,ht'⟩
    ·cases e0
    ·cases e0
     rw[hg]at uQ
     cases uQ
     exact ht.symm.trans ht'
  subst hxs
  have e9:=qd.cg (R:=qm P e w H) (n:=e.size) (λ_ _ _ hh=>qm.length e hh) (λ_ _ _ _ a b=>qm.cg e a b) hch N_
  rw[e9]
 |.pair a b,_,_,_,_,_,_,h,h'=>by
  obtain⟨c1,c2,f1,f2,rfl,rfl,h1,h2⟩:=h
  obtain⟨d1,d2,g1,g2,e1,rfl,k1,k2⟩:=h'
  obtain⟨rfl,rfl⟩:=List.append_inj e1 ((qm.length a h1).trans (qm.length a k1).symm)
  rw[qm.cg a h1 k1,qm.cg b h2 k2]
 |.str t,_,_,_,_,_,_,h,h'=>qm.cg t h h'
 |.ptr _,_,_,_,_,_,_,h,h'=>h.1.trans h'.1.symm
 |.op t,_,_,x,_,_,_,h,h'=>by
  cases x with
  |none=>exact h.2.trans h'.2.symm
  |some y=>
   obtain⟨b,blk,tt,f,rfl,rfl,hb,hr⟩:=h
   obtain⟨b',aX,tt',f',e1,rfl,hb',hr'⟩:=h'
   obtain rfl:b=b':=by simpa using e1
   rw[hb]at hb'
   cases hb'
   rw[qm.cg t hr hr']
 |.arr _ e,w,H,_,_,_,_,h,h'=>qd.cg (R:=qm P e w H) (n:=e.size) (λ_ _ _ hh=>qm.length e hh) (λ_ _ _ _ a b=>qm.cg e a b) h.2 h'.2
 |.fn _ _,_,_,_,_,_,_,h,h'=>h.1.trans h'.1.symm
 |.bQ _ _ _,_,_,_,_,_,_,h,h'=>h.1.trans h'.1.symm
 |.ext _ _ _ _,_,_,_,_,_,_,h,h'=>qY.cg h h'
def iR(w w':World)(b lo hi:Nat):Prop:=∀i,lo<=i->i<hi->w'.cell? ⟨b,i,none⟩=w.cell? ⟨b,i,none⟩
theorem iR.bL{w w':World}{b lo hi:Nat}(h:w'.heap[b]? = w.heap[b]?):iR w w' b lo hi:=λi _ _=>World.cell?_of_block (a:=⟨b,i,none⟩) h
theorem iR.mono{w w':World}{b lo hi lo' hi':Nat}(h:iR w w' b lo hi)(h1:lo<=lo')(h2:hi'<=hi):iR w w' b lo' hi':=λi a c=>h i (Nat.le_trans h1 a) (Nat.lt_of_lt_of_le c h2)
theorem jT.frame{P:Program}:(τ:Ty)->∀{w w':World} {H:FH} {x:τ.den} {cs:List Value} {fp:List Nat} {b:Nat} {blk:Array Value} {t:TypeId} {pre post:List Value} {q:List qu} {z} {b2 o2:Nat},qU τ x q=some z->qm P τ w H x cs fp->w.heap[b]? = some (.cells blk t (0,0))->blk.toList=pre++cs++post->
  jT w τ b pre.length q b2 o2->iR w w' b pre.length (pre.length+τ.size)->(∀k∈fp,w'.heap[k]? = w.heap[k]?)->jT w' τ b pre.length q b2 o2
 |.pair u v,w,w',H,x,cs,fp,b,blk,t,pre,post,q,z,b2,o2,hg,h,hb,hblk,hl,hc,hf=>by
  match q with
  |[]=>exact hl
  |.I _::_=>cases hg
  |.L::q=>
   obtain⟨c1,c2,g1,g2,rfl,rfl,h1,h2⟩:=h
   exact jT.frame u (q:=q) (pre:=pre) (post:=c2++post) hg h1 hb (by rw[hblk];simp) hl (hc.mono (Nat.le_refl _) (by simp only[Ty.size];omega)) (λk hk=>hf k (List.mem_append_left _ hk))
  |.R::q=>
   obtain⟨c1,c2,g1,g2,rfl,rfl,h1,h2⟩:=h
   have hc1:=qm.length u h1
   have hl':jT w v b (pre++c1).length q b2 o2:=by rw[List.length_append,hc1];exact hl
   have:=jT.frame v (w':=w') (q:=q) (pre:=pre++c1) (post:=post) hg h2 hb (by rw[hblk];simp) hl' (hc.mono (by rw[List.length_append];omega) (by simp only[Ty.size,List.length_append,hc1];omega)) (λk hk=>hf k (List.mem_append_right _ hk))
   rw[List.length_append,hc1]at this
   exact this
 |.str s,w,w',H,x,cs,fp,b,blk,t,pre,post,q,z,b2,o2,hg,h,hb,hblk,hl,hc,hf=>by
  match q with
  |[]=>exact hl
  |a::q=>exact jT.frame s (q:=a::q) hg h hb hblk hl hc hf
 |.list true tid e,w,w',H,x,cs,fp,b,blk,t,pre,post,q,z,b2,o2,hg,h,hb,hblk,hl,hc,hf=>by
  match q with
  |[]=>exact hl
  |.L::_=>cases hg
  |.R::_=>cases hg
  |.I i::q=>
   obtain⟨g,n,cap,hcell,bP⟩:=hl
   simp only[qU]at hg
   split at hg
   case isFalse=>cases hg
   obtain⟨z0,hz,hg⟩:=Option.bind_eq_some_iff.1 hg
   obtain⟨ax,xs,aC,rfl,rfl,ho,hch⟩:=h
   refine⟨g,n,cap,by rw[hc pre.length (Nat.le_refl _) (by simp only[Ty.size];omega)];exact hcell,?_⟩
   rw[qw hb,<-Array.getElem?_toList,hblk]at hcell
   simp only[List.append_assoc,Nat.le_refl,List.getElem?_append_right,Nat.sub_self,List.singleton_append,List.getElem?_cons_zero,Option.some.injEq]at hcell
   subst hcell
   rcases ho.2 with⟨e0,_⟩|⟨gb,cap',cur,e0,II,gZ,hcap,wU,hsz,cC⟩
   ·cases e0
   ·cases e0
    obtain⟨bD,c2,bS,g1,gg,g2,rfl,rfl,ht1,h2,ht2⟩:=qd.at hch hz
    have hlen:i.toNat<List.length x:=(List.getElem?_eq_some_iff.1 hz).1
    have eR:bD.length=i.toNat*e.size:=by
     rw[qd.length (n:=e.size) (λ_ _ _ hh=>qm.length e hh) ht1,List.length_take,Nat.min_eq_left (Nat.le_of_lt hlen)]
    have fL:cur.toList=bD++c2++(bS++cur.toList.drop (List.length x*e.size)):=by
     have e9:=(List.take_append_drop (List.length x*e.size) cur.toList).symm
     rw[cC]at e9
     exact e9.trans (by simp only[List.append_assoc])
    rw[<-eR]at bP ⊢
    exact jT.frame e (q:=q) hg h2 gZ fL bP (iR.bL (hf g (by simp[Value.ownBlock]))) (λk hk=>hf k (by simp[hk]))
 |.arr n e,w,w',H,x,cs,fp,b,blk,t,pre,post,q,z,b2,o2,hg,h,hb,hblk,hl,hc,hf=>by
  match q with
  |[]=>exact hl
  |.L::_=>cases hg
  |.R::_=>cases hg
  |.I i::q=>
   simp only[qU]at hg
   split at hg
   case isFalse=>cases hg
   obtain⟨z0,hz,hg⟩:=Option.bind_eq_some_iff.1 hg
   obtain⟨Gy,hch⟩:=h
   obtain⟨bD,c2,bS,g1,g,g2,rfl,rfl,ht1,h2,ht2⟩:=qd.at hch hz
   have hlen:i.toNat<List.length x:=(List.getElem?_eq_some_iff.1 hz).1
   have eR:bD.length=i.toNat*e.size:=by
    rw[qd.length (n:=e.size) (λ_ _ _ hh=>qm.length e hh) ht1,List.length_take,Nat.min_eq_left (Nat.le_of_lt hlen)]
   have hl':jT w e b (pre++bD).length q b2 o2:=by rw[List.length_append,eR];exact hl
   have hmul:i.toNat*e.size+e.size<=n*e.size:=by
    rw[<-Nat.succ_mul]
    exact Nat.mul_le_mul_right _ (by omega)
   have:=jT.frame e (w':=w') (q:=q) (pre:=pre++bD) (post:=bS++post) hg h2 hb (by rw[hblk];simp) hl' (hc.mono (by rw[List.length_append];omega) (by simp only[Ty.size,List.length_append,eR];omega)) (λk hk=>hf k (by simp[hk]))
   rw[List.length_append,eR]at this
   exact this
 |.op s,w,w',H,x,cs,fp,b,blk,t,pre,post,q,z,b2,o2,hg,h,hb,hblk,hl,hc,hf=>by
  match q with
  |[]=>exact hl
  |.L::_=>cases hg
  |.R::_=>cases hg
  |.I i::q=>
   obtain⟨g,hcell,bP⟩:=hl
   simp only[qU]at hg
   obtain⟨z0,rfl,hg⟩:=Option.bind_eq_some_iff.1 hg
   obtain⟨gb,CU,gt,aC,rfl,rfl,gZ,ye⟩:=h
   refine⟨g,by rw[hc pre.length (Nat.le_refl _) (by simp only[Ty.size];omega)];exact hcell,?_⟩
   rw[qw hb,<-Array.getElem?_toList,hblk]at hcell
   simp only[List.append_assoc,Nat.le_refl,List.getElem?_append_right,Nat.sub_self,List.singleton_append,List.getElem?_cons_zero,Option.some.injEq]at hcell
   cases hcell
   exact jT.frame s (q:=q) (pre:=[]) (post:=[]) hg ye gZ (by simp) bP (iR.bL (hf g (by simp))) (λk hk=>hf k (by simp[hk]))
 |.int _,_,_,_,_,_,_,_,_,_,_,_,_,_,_,_,_,_,_,_,hl,_,_=>hl
 |.bool,_,_,_,_,_,_,_,_,_,_,_,_,_,_,_,_,_,_,_,hl,_,_=>hl
 |.list false _ _,_,_,_,_,_,_,_,_,_,_,_,_,_,_,_,_,_,_,_,hl,_,_=>hl
 |.ptr _,_,_,_,_,_,_,_,_,_,_,_,_,_,_,_,_,_,_,_,hl,_,_=>hl
 |.fn _ _,_,_,_,_,_,_,_,_,_,_,_,_,_,_,_,_,_,_,_,hl,_,_=>hl
 |.bQ _ _ _,_,_,_,_,_,_,_,_,_,_,_,_,_,_,_,_,_,_,_,hl,_,_=>hl
 |.ext _ _ _ _,_,_,_,_,_,_,_,_,_,_,_,_,_,_,_,_,_,_,_,hl,_,_=>hl
def uv(P:Program)(w w':World)(H:FH)(b1 o1:Nat)(y:Σ σ:Ty,σ.den):Prop:=
 ∃c f,qm P y.1 w H y.2 c f/\(∀i,i<c.length->w.cell? ⟨b1,o1+i,none⟩=c[i]?)/\(∀k,k<w.heap.size->k≠b1->k∉f->w'.heap[k]? = w.heap[k]?)/\∀i,(i<o1\/o1+y.1.size<=i)->w'.cell? ⟨b1,i,none⟩=w.cell? ⟨b1,i,none⟩
theorem uv.OH{P:Program}{τ:Ty}{w w':World}{H:FH}{x:τ.den}{cs:List Value}{fp:List Nat}{b:Nat}{blk:Array Value}{t:TypeId}{pre post:List Value}{p:List qu}{b1 o1:Nat}{y}(hg:qU τ x p=some y)(h:qm P τ w H x cs fp)(hb:w.heap[b]? = some (.cells blk t (0,0)))(hblk:blk.toList=pre++cs++post)(aq:(b::fp).Nodup)
  (hl:jT w τ b pre.length p b1 o1) (hc:uv P w w' H b1 o1 y):(∀k,k<w.heap.size->k≠b1->k∉fp->w'.heap[k]? = w.heap[k]?):=by
 obtain⟨c,f,h1,h2,h3,h4⟩:=hc
 obtain⟨σ,y⟩:=y
 obtain⟨b',o',aX,t',pre',c',post',f1,f',f2,e1,e2,e3,e4,e5,e6,hl',e7⟩:=qm.desc τ hg h hb hblk aq
 obtain⟨rfl,rfl⟩:=jT.fN τ hl (hl' w (λ_ _=>rfl))
 have Le:c=c':=by
  have l1:=qm.length σ h1
  have l2:=qm.length σ e6
  apply List.ext_getElem?
  intro i
  by_cases hi:i<c.length
  ·have:=h2 i hi
   rw[qw e1,<-Array.getElem?_toList,e2,<-e3,List.append_assoc,List.getElem?_append_right (by omega),List.getElem?_append_left (by omega)]at this
   rw[<-this]
   congr 1
   omega
  ·rw[List.getElem?_eq_none (by omega),List.getElem?_eq_none (by omega)]
 subst Le
 obtain rfl:=qm.cg σ h1 e6
 intro k hlt hk NM
 exact h3 k hlt hk (λhh=>NM (by rw[e4];simp[hh]))
theorem uv.outside{P:Program}{τ:Ty}{w w':World}{H:FH}{x:τ.den}{cs:List Value}{fp:List Nat}{b:Nat}{blk:Array Value}{t:TypeId}{pre post:List Value}{p:List qu}{b1 o1:Nat}{y}(hg:qU τ x p=some y)(h:qm P τ w H x cs fp)(hb:w.heap[b]? = some (.cells blk t (0,0)))(hblk:blk.toList=pre++cs++post)(aq:(b::fp).Nodup)
  (hl:jT w τ b pre.length p b1 o1) (hc:uv P w w' H b1 o1 y):(∀k,k<w.heap.size->k≠b->k∉fp->w'.heap[k]? = w.heap[k]?)/\∀i,(i<pre.length\/pre.length+τ.size<=i)->w'.cell? ⟨b,i,none⟩=w.cell? ⟨b,i,none⟩:=by
 have hf:=hc.OH hg h hb hblk aq hl
 obtain⟨c,f,h1,h2,h3,h4⟩:=hc
 rcases jT.kR τ hg h hb hblk hl with⟨rfl,k1,k2⟩|k
 ·exact⟨hf,λi hi=>h4 i (by omega)⟩
 ·have Sl:b≠b1:=by rintro rfl;exact(List.nodup_cons.1 aq).1 k
  exact⟨λi hlt hi hif=>hf i hlt (by rintro rfl;exact hif k) hif,λi _=>World.cell?_of_block (a:=⟨b,i,none⟩) (hf b (Array.getElem?_eq_some_iff.1 hb).1 Sl (List.nodup_cons.1 aq).1)⟩
theorem uv.cK{P:Program}{τ:Ty}{w w':World}{H:FH}{x:τ.den}{cs:List Value}{fp:List Nat}{b:Nat}{blk:Array Value}{t:TypeId}{pre post:List Value}{p:List qu}{b1 o1:Nat}{y}(hg:qU τ x p=some y)(h:qm P τ w H x cs fp)(hb:w.heap[b]? = some (.cells blk t (0,0)))(hblk:blk.toList=pre++cs++post)(aq:(b::fp).Nodup)
  (hl:jT w τ b pre.length p b1 o1) (hc:uv P w w' H b1 o1 y) (ht:Go.Vi.cK τ p=true):∀k,k<w.heap.size->k∉fp->w'.heap[k]? = w.heap[k]?:=by
 have h1:=YZ τ ht hg h hb hblk hl
 exact λk hlt hk=>hc.OH hg h hb hblk aq hl k hlt (by rintro rfl;exact hk h1) hk
def OY(P:Program)(τ:Ty):Prop:=∀{w w':World} {H:FH} {x:τ.den} {cs:List Value} {fp:List Nat} {b:Nat} {blk:Array Value} {t:TypeId} {pre post:List Value} {p q:List qu} {b1 o1 b2 o2:Nat} {y z},jl p q=true->qU τ x p=some y->qU τ x q=some z->qm P τ w H x cs fp->w.heap[b]? = some (.cells blk t (0,0))->blk.toList=pre++cs++post->(b::fp).Nodup->
  jT w τ b pre.length p b1 o1->jT w τ b pre.length q b2 o2->uv P w w' H b1 o1 y->jT w' τ b pre.length q b2 o2/\(kX τ p q=true\/w'.heap[b1]? = w.heap[b1]?->iR w w' b2 o2 (o2+z.1.size))
theorem uv.other{P:Program}{u v:Ty}{w w':World}{H:FH}{x:u.den}{x2:v.den}{c1 c2:List Value}{g1 g2:List Nat}{b:Nat}{blk:Array Value}{t:TypeId}{xV Bk bD bS:List Value}{p q:List qu}{b1 o1 b2 o2:Nat}{y z}(hg:qU u x p=some y)(hg2:qU v x2 q=some z)(h1:qm P u w H x c1 g1)(h2:qm P v w H x2 c2 g2)(hb:w.heap[b]? = some (.cells blk t (0,0)))
  (uf:blk.toList=xV++c1++Bk) (oP:blk.toList=bD++c2++bS) (aq:(b::g1).Nodup) (hap:bD.length+v.size<=xV.length\/xV.length+u.size<=bD.length) (yq:∀k∈g2,k≠b/\k∉g1)
  (hl:jT w u b xV.length p b1 o1) (bn:jT w v b bD.length q b2 o2) (hc:uv P w w' H b1 o1 y):jT w' v b bD.length q b2 o2/\iR w w' b2 o2 (o2+z.1.size):=by
 obtain⟨k1,k2⟩:=hc.outside hg h1 hb uf aq hl
 have hcell:iR w w' b bD.length (bD.length+v.size):=λi h3 h4=>k2 i (by omega)
 have wV:∀k∈g2,w'.heap[k]? = w.heap[k]?:=λk hk=>k1 k (qm.dat v h2 k hk).lt (yq k hk).1 (yq k hk).2
 refine⟨jT.frame v hg2 h2 hb oP bn hcell wV,?_⟩
 rcases jT.kR v hg2 h2 hb oP bn with⟨rfl,k3,k4⟩|k
 ·exact hcell.mono k3 k4
 ·exact iR.bL (wV _ k)
theorem Row.stay{P:Program}{tid:Nat}{e:Ty}(ih:OY P e){w w':World}{H:FH}{x:List e.den}{ax:Value}{fp:List Nat}{g n cap:Nat}{i j:Int}{p q:List qu}{b1 o1 b2 o2:Nat}{y z}(hw:jl p q=true)(hg:qU (.list true tid e) x (.I i::p)=some y)(hg2:qU (.list true tid e) x (.I j::q)=some z)
  (h:qm P (.list true tid e) w H x [ax] fp) (aq:fp.Nodup) (hh:ax = .slice (some ⟨g,0,none⟩) n cap) (hl:jT w e g (i.toNat*e.size) p b1 o1) (bn:jT w e g (j.toNat*e.size) q b2 o2) (hc:uv P w w' H b1 o1 y):
  jT w' e g (j.toNat*e.size) q b2 o2/\(kX e p q=true\/w'.heap[b1]? = w.heap[b1]?->iR w w' b2 o2 (o2+z.1.size)):=by
 simp only[qU]at hg hg2
 split at hg
 case isFalse=>cases hg
 split at hg2
 case isFalse=>cases hg2
 obtain⟨zi,wM,hg⟩:=Option.bind_eq_some_iff.1 hg
 obtain⟨zj,Cb,hg2⟩:=Option.bind_eq_some_iff.1 hg2
 obtain⟨ry,xs,aC,e1,rfl,ho,hch⟩:=h
 obtain rfl:ax=ry:=by simpa using e1
 subst hh
 rcases ho.2 with⟨e0,_⟩|⟨gb,cap',cur,e0,II,gZ,hcap,wU,hsz,cC⟩
 ·cases e0
 cases e0
 have fL:cur.toList=xs++cur.toList.drop (List.length x*e.size):=by
  have e9:=(List.take_append_drop (List.length x*e.size) cur.toList).symm
  rw[cC]at e9
  exact e9
 have aO:(g::aC).Nodup:=by simpa[Value.ownBlock]using aq
 have hn:∀x c f,qm P e w H x c f->c.length=e.size:=λ_ _ _ hh=>qm.length e hh
 by_cases hij:i.toNat=j.toNat
 ·rw[<-hij]at Cb bn ⊢
  rw[wM]at Cb
  cases Cb
  obtain⟨bD,c2,bS,g1,gg,g2,rfl,rfl,ht1,h2,ht2⟩:=qd.at hch wM
  have hlen:i.toNat<List.length x:=(List.getElem?_eq_some_iff.1 wM).1
  have eR:bD.length=i.toNat*e.size:=by
   rw[qd.length hn ht1,List.length_take,Nat.min_eq_left (Nat.le_of_lt hlen)]
  rw[<-eR]at hl bn ⊢
  have cO:cur.toList=bD++c2++(bS++cur.toList.drop (List.length x*e.size)):=fL.trans (by simp only[List.append_assoc])
  have dJ:(g::gg).Nodup:=by
   simp only[List.nodup_cons,List.nodup_append,List.mem_append]at aO ⊢
   exact⟨λhh=>aO.1 (.inl (.inr hh)),aO.2.1.2.1⟩
  exact ih hw hg hg2 h2 gZ cO dJ hl bn hc
 ·rcases Nat.lt_or_gt_of_ne hij with hlt|hlt
  ·obtain⟨p1,ci,p2,cj,p3,f1,fi,f2,fj,f3,rfl,rfl,l1,l2,h1,h2⟩:=qd.at2 hn hch wM Cb hlt
   rw[<-l1]at hl
   rw[<-l2]at bn ⊢
   have kG:cur.toList=p1++ci++(p2++cj++p3++cur.toList.drop (List.length x*e.size)):=fL.trans (by simp only[List.append_assoc])
   have cO:cur.toList=(p1++ci++p2)++cj++(p3++cur.toList.drop (List.length x*e.size)):=fL.trans (by simp only[List.append_assoc])
   simp only[List.nodup_cons,List.nodup_append,List.mem_append]at aO
   have dJ:(g::fi).Nodup:=by
    simp only[List.nodup_cons]
    exact⟨λhh=>aO.1 (.inl (.inr hh)),aO.2.1.2.1⟩
   have yq:∀k∈fj,k≠g/\k∉fi:=λk hk=>⟨by rintro rfl;exact aO.1 (.inr (.inl (.inr hk))),λhh=>aO.2.2.2 k (.inr hh) k (.inl (.inr hk)) rfl⟩
   have Wn:=qm.length e h1
   obtain⟨k1,k2⟩:=hc.other hg hg2 h1 h2 gZ kG cO dJ (.inr (by simp only[List.length_append,Wn];omega)) yq hl bn
   exact⟨k1,λ_=>k2⟩
  ·obtain⟨p1,cj,p2,ci,p3,f1,fj,f2,fi,f3,rfl,rfl,l1,l2,h2,h1⟩:=qd.at2 hn hch Cb wM hlt
   rw[<-l2]at hl
   rw[<-l1]at bn ⊢
   have cO:cur.toList=p1++cj++(p2++ci++p3++cur.toList.drop (List.length x*e.size)):=fL.trans (by simp only[List.append_assoc])
   have kG:cur.toList=(p1++cj++p2)++ci++(p3++cur.toList.drop (List.length x*e.size)):=fL.trans (by simp only[List.append_assoc])
   simp only[List.nodup_cons,List.nodup_append,List.mem_append]at aO
   have dJ:(g::fi).Nodup:=by
    simp only[List.nodup_cons]
    exact⟨λhh=>aO.1 (.inr (.inl (.inr hh))),aO.2.2.1.1.2.1⟩
   have yq:∀k∈fj,k≠g/\k∉fi:=λk hk=>⟨by rintro rfl;exact aO.1 (.inl (.inr hk)),λhh=>aO.2.2.2 k (.inr hk) k (.inl (.inr hh)) rfl⟩
   have hcj:=qm.length e h2
   obtain⟨k1,k2⟩:=hc.other hg hg2 h1 h2 gZ kG cO dJ (.inl (by simp only[List.length_append,hcj];omega)) yq hl bn
   exact⟨k1,λ_=>k2⟩
theorem uv.root{P:Program}{τ:Ty}{w w':World}{H:FH}{x:τ.den}{cs:List Value}{fp:List Nat}{b:Nat}{blk:Array Value}{t:TypeId}{pre post:List Value}{p:List qu}{b1 o1:Nat}{y}(hg:qU τ x p=some y)(h:qm P τ w H x cs fp)(hb:w.heap[b]? = some (.cells blk t (0,0)))(hblk:blk.toList=pre++cs++post)(aq:(b::fp).Nodup)
  (hl:jT w τ b pre.length p b1 o1) (hc:uv P w w' H b1 o1 y) (hv:Go.Vi.cK τ p=true\/w'.heap[b1]? = w.heap[b1]?):w'.heap[b]? = w.heap[b]?:=by
 have hnb:=(List.nodup_cons.1 aq).1
 rcases hv with hv|hv
 ·exact hc.cK hg h hb hblk aq hl hv b (Array.getElem?_eq_some_iff.1 hb).1 hnb
 ·by_cases e:b=b1
  ·rw[e];exact hv
  ·exact hc.OH hg h hb hblk aq hl b (Array.getElem?_eq_some_iff.1 hb).1 e hnb
theorem jT.stay{P:Program}:(τ:Ty)->∀{w w':World} {H:FH} {x:τ.den} {cs:List Value} {fp:List Nat} {b:Nat} {blk:Array Value} {t:TypeId} {pre post:List Value} {p q:List qu} {b1 o1 b2 o2:Nat} {y z},jl p q=true->qU τ x p=some y->qU τ x q=some z->qm P τ w H x cs fp->w.heap[b]? = some (.cells blk t (0,0))->blk.toList=pre++cs++post->(b::fp).Nodup->
  jT w τ b pre.length p b1 o1->jT w τ b pre.length q b2 o2->uv P w w' H b1 o1 y->jT w' τ b pre.length q b2 o2/\(kX τ p q=true\/w'.heap[b1]? = w.heap[b1]?->iR w w' b2 o2 (o2+z.1.size))
 |.pair u v,w,w',H,x,cs,fp,b,blk,t,pre,post,p,q,b1,o1,b2,o2,y,z,hw,hg,hg2,h,hb,hblk,aq,hl,bn,hc=>by
  have h0:=h
  obtain⟨c1,c2,g1,g2,rfl,rfl,h1,h2⟩:=h
  have hc1:=qm.length u h1
  have uf:blk.toList=pre++c1++(c2++post):=by rw[hblk];simp
  have oP:blk.toList=(pre++c1)++c2++post:=by rw[hblk];simp
  have aO:=aq
  simp only[List.nodup_cons,List.nodup_append,List.mem_append]at aO
  have yj:(b::g1).Nodup:=List.nodup_cons.2 ⟨λhh=>aO.1 (.inl hh),aO.2.1⟩
  have dJ:(b::g2).Nodup:=List.nodup_cons.2 ⟨λhh=>aO.1 (.inr hh),aO.2.2.1⟩
  match p,q with
  |p,[]=>
   cases hg2
   refine⟨bn,λhv=>?_⟩
   have gl:cK (.pair u v) p=true\/w'.heap[b1]? = w.heap[b1]?:=hv.imp_left λhv=>by
    match p with
    |[]=>exact hv
    |.L::_=>exact hv
    |.R::_=>exact hv
    |.I _::_=>exact hv
   obtain⟨rfl,rfl⟩:=bn
   exact iR.bL (hc.root hg h0 hb hblk aq hl gl)
  |.L::p,.L::q=>exact jT.stay u (p:=p) (q:=q) hw hg hg2 h1 hb uf yj hl bn hc
  |.R::p,.R::q=>
   have hl':jT w v b (pre++c1).length p b1 o1:=by rw[List.length_append,hc1];exact hl
   have rq:jT w v b (pre++c1).length q b2 o2:=by rw[List.length_append,hc1];exact bn
   have:=jT.stay v (p:=p) (q:=q) hw hg hg2 h2 hb oP dJ hl' rq hc
   rw[List.length_append,hc1]at this
   exact this
  |.L::p,.R::q=>
   have rq:jT w v b (pre++c1).length q b2 o2:=by rw[List.length_append,hc1];exact bn
   have:=hc.other (u:=u) (v:=v) (p:=p) (q:=q) hg hg2 h1 h2 hb uf oP yj (.inr (by rw[List.length_append,hc1];omega)) (λk hk=>⟨by rintro rfl;exact aO.1 (.inr hk),λhh=>aO.2.2.2 k hh k hk rfl⟩) hl rq
   rw[List.length_append,hc1]at this
   exact⟨this.1,λ_=>this.2⟩
  |.R::p,.L::q=>
   have hl':jT w v b (pre++c1).length p b1 o1:=by rw[List.length_append,hc1];exact hl
   have:=hc.other (u:=v) (v:=u) (p:=p) (q:=q) hg hg2 h2 h1 hb oP uf dJ (.inl (by rw[List.length_append,hc1];omega)) (λk hk=>⟨by rintro rfl;exact aO.1 (.inl hk),λhh=>aO.2.2.2 k hk k hh rfl⟩) hl' bn
   exact⟨this.1,λ_=>this.2⟩
  |[],_::_=>simp[jl]at hw
  |.I _::_,_::_=>cases hg
  |.L::_,.I _::_=>cases hg2
  |.R::_,.I _::_=>cases hg2
 |.str s,w,w',H,x,cs,fp,b,blk,t,pre,post,p,q,b1,o1,b2,o2,y,z,hw,hg,hg2,h,hb,hblk,aq,hl,bn,hc=>by
  match p,q with
  |p,[]=>
   cases hg2
   refine⟨bn,λhv=>?_⟩
   obtain⟨rfl,rfl⟩:=bn
   have gl:cK (.str s) p=true\/w'.heap[b1]? = w.heap[b1]?:=hv.imp_left λhv=>by
    have hv:kX s p []=true:=hv
    exact Uy s hv
   exact iR.bL (hc.root hg h hb hblk aq hl gl)
  |[],_::_=>simp[jl]at hw
  |a::p,a'::q=>exact jT.stay s (p:=a::p) (q:=a'::q) hw hg hg2 h hb hblk aq hl bn hc
 |.list true tid e,w,w',H,x,cs,fp,b,blk,t,pre,post,p,q,b1,o1,b2,o2,y,z,hw,hg,hg2,h,hb,hblk,aq,hl,bn,hc=>by
  match p,q with
  |p,[]=>
   cases hg2
   refine⟨bn,λhv=>?_⟩
   obtain⟨rfl,rfl⟩:=bn
   have gl:cK (.list true tid e) p=true\/w'.heap[b1]? = w.heap[b1]?:=hv.imp_left λhv=>Uy (.list true tid e) hv
   exact iR.bL (hc.root hg h hb hblk aq hl gl)
  |[],_::_=>simp[jl]at hw
  |.L::_,_::_=>cases hg
  |.R::_,_::_=>cases hg
  |.I _::_,.L::_=>cases hg2
  |.I _::_,.R::_=>cases hg2
  |.I i::p,.I j::q=>
   have gX:=hc.root hg h hb hblk aq hl (.inl rfl)
   obtain⟨ax,xs,aC,rfl,rfl,ho,hch⟩:=h
   obtain⟨g,n,cap,hcell,bP⟩:=hl
   obtain⟨g',n',cap',mH,fW⟩:=bn
   rw[hcell]at mH
   cases mH
   have ru:ax = .slice (some ⟨g,0,none⟩) n cap:=by
    rw[qw hb,<-Array.getElem?_toList,hblk]at hcell
    simpa using hcell
   obtain⟨k1,k2⟩:=Row.stay (tid:=tid) (λa b c d e' f g h i j=>jT.stay e a b c d e' f g h i j) (p:=p) (q:=q) hw hg hg2 ⟨ax,xs,aC,rfl,rfl,ho,hch⟩ (List.nodup_cons.1 aq).2 ru bP fW hc
   exact⟨⟨g,n,cap,by rw[World.cell?_of_block (a:=⟨b,pre.length,none⟩) gX];exact hcell,k1⟩,k2⟩
 |.op s,w,w',H,x,cs,fp,b,blk,t,pre,post,p,q,b1,o1,b2,o2,y,z,hw,hg,hg2,h,hb,hblk,aq,hl,bn,hc=>by
  match p,q with
  |p,[]=>
   cases hg2
   refine⟨bn,λhv=>?_⟩
   obtain⟨rfl,rfl⟩:=bn
   have gl:cK (.op s) p=true\/w'.heap[b1]? = w.heap[b1]?:=hv.imp_left λhv=>Uy (.op s) hv
   exact iR.bL (hc.root hg h hb hblk aq hl gl)
  |[],_::_=>simp[jl]at hw
  |.L::_,_::_=>cases hg
  |.R::_,_::_=>cases hg
  |.I _::_,.L::_=>cases hg2
  |.I _::_,.R::_=>cases hg2
  |.I i::p,.I j::q=>
   have gX:=hc.root hg h hb hblk aq hl (.inl rfl)
   simp only[qU]at hg hg2
   obtain⟨z0,rfl,hg⟩:=Option.bind_eq_some_iff.1 hg
   obtain⟨z1,e1,hg2⟩:=Option.bind_eq_some_iff.1 hg2
   cases e1
   obtain⟨gb,CU,gt,aC,rfl,rfl,gZ,ye⟩:=h
   obtain⟨g,hcell,bP⟩:=hl
   obtain⟨g',mH,fW⟩:=bn
   rw[hcell]at mH
   cases mH
   have ru:g=gb:=by
    rw[qw hb,<-Array.getElem?_toList,hblk]at hcell
    have:=hcell
    simp only[List.append_assoc,Nat.le_refl,List.getElem?_append_right,Nat.sub_self,List.singleton_append,List.getElem?_cons_zero,Option.some.injEq]at this
    cases this
    rfl
   subst ru
   obtain⟨k1,k2⟩:=jT.stay s (p:=p) (q:=q) (pre:=[]) (post:=[]) hw hg hg2 ye gZ (by simp) (List.nodup_cons.1 aq).2 bP fW hc
   exact⟨⟨g,by rw[World.cell?_of_block (a:=⟨b,pre.length,none⟩) gX];exact hcell,k1⟩,k2⟩
 |.arr n e,w,w',H,x,cs,fp,b,blk,t,pre,post,p,q,b1,o1,b2,o2,y,z,hw,hg,hg2,h,hb,hblk,aq,hl,bn,hc=>by
  match p,q with
  |p,[]=>
   cases hg2
   refine⟨bn,λhv=>?_⟩
   obtain⟨rfl,rfl⟩:=bn
   have gl:cK (.arr n e) p=true\/w'.heap[b1]? = w.heap[b1]?:=hv.imp_left λhv=>Uy (.arr n e) hv
   exact iR.bL (hc.root hg h hb hblk aq hl gl)
  |[],_::_=>simp[jl]at hw
  |.L::_,_::_=>cases hg
  |.R::_,_::_=>cases hg
  |.I _::_,.L::_=>cases hg2
  |.I _::_,.R::_=>cases hg2
  |.I i::p,.I j::q=>
   simp only[qU]at hg hg2
   split at hg
   case isFalse=>cases hg
   split at hg2
   case isFalse=>cases hg2
   obtain⟨zi,wM,hg⟩:=Option.bind_eq_some_iff.1 hg
   obtain⟨zj,Cb,hg2⟩:=Option.bind_eq_some_iff.1 hg2
   obtain⟨Gy,hch⟩:=h
   have hn:∀x c f,qm P e w H x c f->c.length=e.size:=λ_ _ _ hh=>qm.length e hh
   have bP:∀{p:List qu} {b' o':Nat} {w:World} {i:Int},jT w (.arr n e) b pre.length (.I i::p) b' o'->jT w e b (pre.length+i.toNat*e.size) p b' o':=λhh=>hh
   have aO:=aq
   by_cases hij:i.toNat=j.toNat
   ·rw[<-hij]at Cb
    rw[wM]at Cb
    cases Cb
    obtain⟨bD,c2,bS,g1,gg,g2,rfl,rfl,ht1,h2,ht2⟩:=qd.at hch wM
    have hlen:i.toNat<List.length x:=(List.getElem?_eq_some_iff.1 wM).1
    have eR:bD.length=i.toNat*e.size:=by
     rw[qd.length hn ht1,List.length_take,Nat.min_eq_left (Nat.le_of_lt hlen)]
    have hl':jT w e b (pre++bD).length p b1 o1:=by rw[List.length_append,eR];exact hl
    have rq:jT w e b (pre++bD).length q b2 o2:=by rw[List.length_append,eR,hij];exact bn
    simp only[List.nodup_cons,List.nodup_append,List.mem_append]at aO
    have:=jT.stay e (p:=p) (q:=q) (pre:=pre++bD) (post:=bS++post) hw hg hg2 h2 hb (by rw[hblk];simp) (List.nodup_cons.2 ⟨λhh=>aO.1 (.inl (.inr hh)),aO.2.1.2.1⟩) hl' rq hc
    rw[List.length_append,eR,hij]at this
    exact this
   ·rcases Nat.lt_or_gt_of_ne hij with hlt|hlt
    ·obtain⟨p1,ci,p2,cj,p3,f1,fi,f2,fj,f3,rfl,rfl,l1,l2,h1,h2⟩:=qd.at2 hn hch wM Cb hlt
     have hl':jT w e b (pre++p1).length p b1 o1:=by rw[List.length_append,l1];exact hl
     have rq:jT w e b (pre++(p1++ci++p2)).length q b2 o2:=by rw[List.length_append,l2];exact bn
     simp only[List.nodup_cons,List.nodup_append,List.mem_append]at aO
     have Wn:=qm.length e h1
     have:=hc.other hg hg2 h1 h2 hb (xV:=pre++p1) (Bk:=p2++cj++p3++post) (bD:=pre++(p1++ci++p2)) (bS:=p3++post) (by rw[hblk];simp) (by rw[hblk];simp) (List.nodup_cons.2 ⟨λhh=>aO.1 (.inl (.inr hh)),aO.2.1.2.1⟩) (.inr (by simp only[List.length_append,Wn];omega))
      (λk hk=>⟨by rintro rfl;exact aO.1 (.inr (.inl (.inr hk))),λhh=>aO.2.2.2 k (.inr hh) k (.inl (.inr hk)) rfl⟩) hl' rq
     rw[List.length_append,l2]at this
     exact⟨this.1,λ_=>this.2⟩
    ·obtain⟨p1,cj,p2,ci,p3,f1,fj,f2,fi,f3,rfl,rfl,l1,l2,h2,h1⟩:=qd.at2 hn hch Cb wM hlt
     have hl':jT w e b (pre++(p1++cj++p2)).length p b1 o1:=by rw[List.length_append,l2];exact hl
     have rq:jT w e b (pre++p1).length q b2 o2:=by rw[List.length_append,l1];exact bn
     simp only[List.nodup_cons,List.nodup_append,List.mem_append]at aO
     have hcj:=qm.length e h2
     have:=hc.other hg hg2 h1 h2 hb (xV:=pre++(p1++cj++p2)) (Bk:=p3++post) (bD:=pre++p1) (bS:=p2++ci++p3++post) (by rw[hblk];simp) (by rw[hblk];simp) (List.nodup_cons.2 ⟨λhh=>aO.1 (.inr (.inl (.inr hh))),aO.2.2.1.1.2.1⟩) (.inl (by simp only[List.length_append,hcj];omega))
      (λk hk=>⟨by rintro rfl;exact aO.1 (.inl (.inr hk)),λhh=>aO.2.2.2 k (.inr hk) k (.inl (.inr hh)) rfl⟩) hl' rq
     rw[List.length_append,l1]at this
     exact⟨this.1,λ_=>this.2⟩
 |.int _,w,w',H,x,cs,fp,b,blk,t,pre,post,p,q,b1,o1,b2,o2,y,z,hw,hg,hg2,h,hb,hblk,aq,hl,bn,hc=>by
  obtain⟨rfl,rfl,rfl⟩:=bn
  exact⟨⟨rfl,rfl,rfl⟩,λhv=>iR.bL (hc.root hg h hb hblk aq hl (hv.imp_left λh=>by simp[kX]at h))⟩
 |.bool,w,w',H,x,cs,fp,b,blk,t,pre,post,p,q,b1,o1,b2,o2,y,z,hw,hg,hg2,h,hb,hblk,aq,hl,bn,hc=>by
  obtain⟨rfl,rfl,rfl⟩:=bn
  exact⟨⟨rfl,rfl,rfl⟩,λhv=>iR.bL (hc.root hg h hb hblk aq hl (hv.imp_left λh=>by simp[kX]at h))⟩
 |.list false _ _,w,w',H,x,cs,fp,b,blk,t,pre,post,p,q,b1,o1,b2,o2,y,z,hw,hg,hg2,h,hb,hblk,aq,hl,bn,hc=>by
  obtain⟨rfl,rfl,rfl⟩:=bn
  exact⟨⟨rfl,rfl,rfl⟩,λhv=>iR.bL (hc.root hg h hb hblk aq hl (hv.imp_left λh=>by simp[kX]at h))⟩
 |.ptr _,w,w',H,x,cs,fp,b,blk,t,pre,post,p,q,b1,o1,b2,o2,y,z,hw,hg,hg2,h,hb,hblk,aq,hl,bn,hc=>by
  obtain⟨rfl,rfl,rfl⟩:=bn
  exact⟨⟨rfl,rfl,rfl⟩,λhv=>iR.bL (hc.root hg h hb hblk aq hl (hv.imp_left λh=>by simp[kX]at h))⟩
 |.fn _ _,w,w',H,x,cs,fp,b,blk,t,pre,post,p,q,b1,o1,b2,o2,y,z,hw,hg,hg2,h,hb,hblk,aq,hl,bn,hc=>by
  obtain⟨rfl,rfl,rfl⟩:=bn
  exact⟨⟨rfl,rfl,rfl⟩,λhv=>iR.bL (hc.root hg h hb hblk aq hl (hv.imp_left λh=>by simp[kX]at h))⟩
 |.bQ _ _ _,w,w',H,x,cs,fp,b,blk,t,pre,post,p,q,b1,o1,b2,o2,y,z,hw,hg,hg2,h,hb,hblk,aq,hl,bn,hc=>by
  obtain⟨rfl,rfl,rfl⟩:=bn
  exact⟨⟨rfl,rfl,rfl⟩,λhv=>iR.bL (hc.root hg h hb hblk aq hl (hv.imp_left λh=>by simp[kX]at h))⟩
 |.ext _ _ _ _,w,w',H,x,cs,fp,b,blk,t,pre,post,p,q,b1,o1,b2,o2,y,z,hw,hg,hg2,h,hb,hblk,aq,hl,bn,hc=>by
  obtain⟨rfl,rfl,rfl⟩:=bn
  exact⟨⟨rfl,rfl,rfl⟩,λhv=>iR.bL (hc.root hg h hb hblk aq hl (hv.imp_left λh=>by simp[kX]at h))⟩
theorem ZC:(τ:Ty)->∀{x x':τ.den} {p q:List qu} {σ:Ty} {v:σ.den},kW p q=true->j6 τ x p σ v=some x'->qU τ x' q=qU τ x q
 |.pair a b,x,x',p,q,σ,v,hw,hs=>by
  match p,q with
  |_,[]=>simp[kW]at hw
  |[],_::_=>simp[kW]at hw
  |.L::p,.L::q=>
   obtain⟨z,hz,rfl⟩:=Option.map_eq_some_iff.1 hs
   exact ZC a (p:=p) (q:=q) hw hz
  |.R::p,.R::q=>
   obtain⟨z,hz,rfl⟩:=Option.map_eq_some_iff.1 hs
   exact ZC b (p:=p) (q:=q) hw hz
  |.L::p,.R::q=>
   obtain⟨z,hz,rfl⟩:=Option.map_eq_some_iff.1 hs
   rfl
  |.R::p,.L::q=>
   obtain⟨z,hz,rfl⟩:=Option.map_eq_some_iff.1 hs
   rfl
  |.I _::_,_::_=>cases hs
  |.L::_,.I _::_=>simp[kW]at hw
  |.R::_,.I _::_=>simp[kW]at hw
 |.str t,x,x',p,q,σ,v,hw,hs=>by
  match p,q with
  |_,[]=>simp[kW]at hw
  |[],_::_=>simp[kW]at hw
  |s::p,s'::q=>exact ZC t (p:=s::p) (q:=s'::q) hw hs
 |.list true _ _,_,_,p,q,_,_,hw,hs=>by
  match p,q with
  |[],_=>simp[kW]at hw
  |.L::_,_=>cases hs
  |.R::_,_=>cases hs
  |.I _::_,_=>simp[kW]at hw
 |.list false _ _,_,_,p,q,_,_,hw,hs=>by
  match p with
  |[]=>simp[kW]at hw
  |_::_=>cases hs
 |.arr _ _,_,_,p,q,_,_,hw,hs=>by
  match p,q with
  |[],_=>simp[kW]at hw
  |.L::_,_=>cases hs
  |.R::_,_=>cases hs
  |.I _::_,_=>simp[kW]at hw
 |.op _,_,_,p,q,_,_,hw,hs=>by
  match p,q with
  |[],_=>simp[kW]at hw
  |.L::_,_=>cases hs
  |.R::_,_=>cases hs
  |.I _::_,_=>simp[kW]at hw
 |.int _,_,_,p,_,_,_,hw,hs=>by
  match p with
  |[]=>simp[kW]at hw
  |_::_=>cases hs
 |.bool,_,_,p,_,_,_,hw,hs=>by
  match p with
  |[]=>simp[kW]at hw
  |_::_=>cases hs
 |.ptr _,_,_,p,_,_,_,hw,hs=>by
  match p with
  |[]=>simp[kW]at hw
  |_::_=>cases hs
 |.fn _ _,_,_,p,_,_,_,hw,hs=>by
  match p with
  |[]=>simp[kW]at hw
  |_::_=>cases hs
 |.bQ _ _ _,_,_,p,_,_,_,hw,hs=>by
  match p with
  |[]=>simp[kW]at hw
  |_::_=>cases hs
 |.ext _ _ _ _,_,_,p,_,_,_,hw,hs=>by
  match p with
  |[]=>simp[kW]at hw
  |_::_=>cases hs
theorem Ks:(τ:Ty)->∀{x x':τ.den} {p q:List qu} {σ:Ty} {v:σ.den} {y},jl p q=true->qU τ x q=some y->j6 τ x p σ v=some x'->∃y',qU τ x' q=some ⟨y.1,y'⟩
 |.pair a b,x,x',p,q,σ,v,y,hw,hg,hs=>by
  match p,q with
  |_,[]=>cases hg;exact⟨x',rfl⟩
  |[],_::_=>simp[jl]at hw
  |.L::p,.L::q=>
   obtain⟨z,hz,rfl⟩:=Option.map_eq_some_iff.1 hs
   exact Ks a (p:=p) (q:=q) hw hg hz
  |.R::p,.R::q=>
   obtain⟨z,hz,rfl⟩:=Option.map_eq_some_iff.1 hs
   exact Ks b (p:=p) (q:=q) hw hg hz
  |.L::p,.R::q=>
   obtain⟨z,hz,rfl⟩:=Option.map_eq_some_iff.1 hs
   exact⟨y.2,hg⟩
  |.R::p,.L::q=>
   obtain⟨z,hz,rfl⟩:=Option.map_eq_some_iff.1 hs
   exact⟨y.2,hg⟩
  |.I _::_,_::_=>cases hs
  |.L::_,.I _::_=>cases hg
  |.R::_,.I _::_=>cases hg
 |.str t,x,x',p,q,σ,v,y,hw,hg,hs=>by
  match p,q with
  |_,[]=>cases hg;exact⟨x',rfl⟩
  |[],_::_=>simp[jl]at hw
  |s::p,s'::q=>exact Ks t (p:=s::p) (q:=s'::q) hw hg hs
 |.list true tid e,x,x',p,q,σ,v,y,hw,hg,hs=>by
  match p,q with
  |_,[]=>cases hg;exact⟨x',rfl⟩
  |[],_::_=>simp[jl]at hw
  |.I i::p,.I j::q=>
   simp only[j6]at hs
   simp only[qU]at hg ⊢
   split at hs
   case isFalse=>cases hs
   split at hg
   case isFalse=>cases hg
   rename_i hj
   rw[if_pos hj]
   obtain⟨z,hz,hs⟩:=Option.bind_eq_some_iff.1 hs
   obtain⟨z',mv,rfl⟩:=Option.map_eq_some_iff.1 hs
   obtain⟨u,hu,hg⟩:=Option.bind_eq_some_iff.1 hg
   by_cases hij:i.toNat=j.toNat
   ·rw[hij]at hz ⊢
    rw[hz]at hu
    cases hu
    obtain⟨y',hy'⟩:=Ks e (p:=p) (q:=q) hw hg mv
    have hlt:=(List.getElem?_eq_some_iff.1 hz).1
    rw[List.getElem?_set_self hlt]
    exact⟨y',hy'⟩
   ·rw[List.getElem?_set_ne hij,hu]
    exact⟨y.2,hg⟩
  |.L::_,_::_=>cases hs
  |.R::_,_::_=>cases hs
  |.I _::_,.L::_=>cases hg
  |.I _::_,.R::_=>cases hg
 |.arr m e,x,x',p,q,σ,v,y,hw,hg,hs=>by
  match p,q with
  |_,[]=>cases hg;exact⟨x',rfl⟩
  |[],_::_=>simp[jl]at hw
  |.I i::p,.I j::q=>
   simp only[j6]at hs
   simp only[qU]at hg ⊢
   split at hs
   case isFalse=>cases hs
   split at hg
   case isFalse=>cases hg
   rename_i hj
   rw[if_pos hj]
   obtain⟨z,hz,hs⟩:=Option.bind_eq_some_iff.1 hs
   obtain⟨z',mv,rfl⟩:=Option.map_eq_some_iff.1 hs
   obtain⟨u,hu,hg⟩:=Option.bind_eq_some_iff.1 hg
   by_cases hij:i.toNat=j.toNat
   ·rw[hij]at hz ⊢
    rw[hz]at hu
    cases hu
    obtain⟨y',hy'⟩:=Ks e (p:=p) (q:=q) hw hg mv
    have hlt:=(List.getElem?_eq_some_iff.1 hz).1
    rw[List.getElem?_set_self hlt]
    exact⟨y',hy'⟩
   ·rw[List.getElem?_set_ne hij,hu]
    exact⟨y.2,hg⟩
  |.L::_,_::_=>cases hs
  |.R::_,_::_=>cases hs
  |.I _::_,.L::_=>cases hg
  |.I _::_,.R::_=>cases hg
 |.op t,x,x',p,q,σ,v,y,hw,hg,hs=>by
  match p,q with
  |_,[]=>cases hg;exact⟨x',rfl⟩
  |[],_::_=>simp[jl]at hw
  |.I i::p,.I j::q=>
   simp only[j6]at hs
   simp only[qU]at hg ⊢
   obtain⟨z,hz,hs⟩:=Option.bind_eq_some_iff.1 hs
   obtain⟨z',mv,rfl⟩:=Option.map_eq_some_iff.1 hs
   obtain⟨u,hu,hg⟩:=Option.bind_eq_some_iff.1 hg
   rw[hz]at hu
   cases hu
   exact Ks t (p:=p) (q:=q) hw hg mv
  |.L::_,_::_=>cases hs
  |.R::_,_::_=>cases hs
  |.I _::_,.L::_=>cases hg
  |.I _::_,.R::_=>cases hg
 |.int _,x,x',p,q,σ,v,y,hw,hg,hs=>by
  match q with
  |[]=>cases hg;exact⟨x',rfl⟩
  |_::_=>cases hg
 |.bool,x,x',p,q,σ,v,y,hw,hg,hs=>by
  match q with
  |[]=>cases hg;exact⟨x',rfl⟩
  |_::_=>cases hg
 |.list false _ _,x,x',p,q,σ,v,y,hw,hg,hs=>by
  match q with
  |[]=>cases hg;exact⟨x',rfl⟩
  |_::_=>cases hg
 |.ptr _,x,x',p,q,σ,v,y,hw,hg,hs=>by
  match q with
  |[]=>cases hg;exact⟨x',rfl⟩
  |_::_=>cases hg
 |.fn _ _,x,x',p,q,σ,v,y,hw,hg,hs=>by
  match q with
  |[]=>cases hg;exact⟨x',rfl⟩
  |_::_=>cases hg
 |.bQ _ _ _,x,x',p,q,σ,v,y,hw,hg,hs=>by
  match q with
  |[]=>cases hg;exact⟨x',rfl⟩
  |_::_=>cases hg
 |.ext _ _ _ _,x,x',p,q,σ,v,y,hw,hg,hs=>by
  match q with
  |[]=>cases hg;exact⟨x',rfl⟩
  |_::_=>cases hg
theorem qR.stay{P:Program}{w w':World}{H:FH}{o:Obj}{φ eE:qH}(hok:qR P w H o φ)(hφ:eE.b=φ.b/\eE.ax=φ.ax){p q:List qu}{y z}{b1 o1 b2 o2:Nat}(hw:jl p q=true)(hg:qU o.τ o.x p=some y)(hg2:qU o.τ o.x q=some z)(hl:jV w o φ p b1 o1)(bn:jV w o φ q b2 o2)(hc:uv P w w' H b1 o1 y)(x':o.τ.den):
  jV w' ⟨o.row,o.τ,x'⟩ eE q b2 o2/\(kX o.τ p q=true\/w'.heap[b1]? = w.heap[b1]?->iR w w' b2 o2 (o2+z.1.size)):=by
 obtain⟨row,τ,x⟩:=o
 cases row with
 |false=>
  obtain⟨_,aq,blk,t,aC,h4,h5,h6⟩:=hok
  obtain⟨k1,k2⟩:=jT.stay (P:=P) τ (pre:=[]) (post:=[]) hw hg hg2 h5 h4 (by simp) (by rw[<-h6];exact aq) hl bn hc
  refine⟨?_,k2⟩
  show jT w' τ eE.b 0 q b2 o2
  rw[hφ.1]
  exact k1
 |true=>
  unfold jV at hl bn
  simp only at hl bn
  split at hl
  case h_2=>exact hl.elim
  rename_i tid e i p
  match q with
  |[]=>exact bn.elim
  |.L::_=>exact bn.elim
  |.R::_=>exact bn.elim
  |.I j::q=>
   obtain⟨g,n,cap,hh,bP⟩:=hl
   obtain⟨g',n',cap',KX,fW⟩:=bn
   rw[hh]at KX
   cases KX
   obtain⟨k1,k2⟩:=Row.stay (P:=P) (tid:=tid) (λa b c d e' f g h i j=>jT.stay e a b c d e' f g h i j) (p:=p) (q:=q) hw hg hg2 hok.dz hok.2.1 hh bP fW hc
   exact⟨⟨g,n,cap,by rw[hφ.2];exact hh,k1⟩,k2⟩
theorem qiF{w w':World}{b off n:Nat}{blk aX:Array Value}{t t':TypeId}{f f':Nat×Nat}(h:iR w w' b off (off+n))(hb:w.heap[b]? = some (.cells blk t f))(hb':w'.heap[b]? = some (.cells aX t' f')):ct aX off n=ct blk off n:=by
 unfold ct
 apply List.ext_getElem?
 intro i
 by_cases hi:i<n
 ·simp only[List.getElem?_take,hi,if_true,List.getElem?_drop]
  have:=h (off+i) (by omega) (by omega)
  rw[qw hb,qw hb',<-Array.getElem?_toList,<-Array.getElem?_toList]at this
  exact this
 ·simp only[List.getElem?_take,hi,if_false]
theorem qR.dat{P:Program}{w:World}{H:FH}{o:Obj}{φ:qH}(h:qR P w H o φ):∀b∈φ.fp,AQ w b:=by
 obtain⟨_,_,h⟩:=h
 cases hr:o.row with
 |false=>
  rw[hr]at h
  obtain⟨blk,t,aC,h4,h5,h6⟩:=h
  intro b hb
  rw[h6]at hb
  rcases List.mem_cons.1 hb with rfl|hb
  ·exact⟨_,h4,rfl⟩
  ·exact qm.dat _ h5 b hb
 |true=>
  rw[hr]at h
  obtain⟨_,cs,_,h5⟩:=h
  exact qm.dat _ h5
end Go.Vi
