/- The journey that the program finds is right for each lorry that is not heavier, plain. No condition beyond those typed in each theorem. -/
import Derived.Test.YtmlocmhkfnojbaaE1
import Derived.Test.YtmlocmhkfnojbaaEx
namespace Go.Proofs.Try.V.Cv
open Go.Vi Go.Proofs Go.RowKit
set_option maxRecDepth 100000
def qdN(m:Map)(x:Lor)(p:Pt)(now d len:Int):Int:=if Wy.pkOf m.1 p.1=true/\x.2.2.2.2.2<=d-now then len else p.2+len
inductive qfX (m:Map) (x:Lor):Pt->Int->List Leg->Pt->Int->Prop
 |nil (p:Pt) (now:Int):qfX m x p now [] p now
 |cons {p:Pt} {now:Int} {i:Nat} {r:qb6} {d:Int} {l:List Leg} {p':Pt} {n':Int} (h1:m.2[i]? = some r) (h2:r.1=p.1\/r.2.1=p.1) (h3:x.1<=r.2.2.2.1) (h4:x.2.1<=r.2.2.2.2) (h5:now<=d) (h6:d<=now+500) (h7:qdN m x p now d r.2.2.1<=x.2.2.2.2.1)
   (h8:qfX m x (r.1+r.2.1-p.1,qdN m x p now d r.2.2.1) (d+r.2.2.1) l p' n'):qfX m x p now ((((i:Nat):Int),d)::l) p' n'
theorem g44_eq(r:qb6)(x:Lor):g44 (r,x,())=some ((decide (x.1<=r.2.2.2.1/\x.2.1<=r.2.2.2.2),()),()):=by
 unfold g44 F44
 simp only
 by_cases h:x.1<=r.2.2.2.1
 ·rw[decide_eq_true h,cond_true]
  exact congrArg (λb=>some ((b,()),())) (decide_eq_decide.2 ⟨λh'=>⟨h,h'⟩,λh'=>h'.2⟩)
 ·rw[decide_eq_false h,cond_false,decide_eq_false (λh'=>h h'.1)]
theorem ends_ok{R:Type}{a b t:Int}(h:a=t\/b=t)(F X:R):cond (a !=t) (cond (b !=t) F X) X=X:=by
 by_cases h1:a=t
 ·rw[show(a !=t)=false by simp[h1]];rfl
 ·rw[show(a !=t)=true by simpa using h1,cond_true,show(b !=t)=false by simp[h.resolve_left h1]];rfl
theorem pk_at{m:Map}{t:Int}(h:0<=t/\t<m.1.length){R:Type}(z:Bool->Option R):qs m.1 t z=z (Wy.pkOf m.1 t):=by
 have h':t.toNat<m.1.length:=by omega
 have e:=gN (l:=m.1) (i:=t.toNat) h' z
 rw[show((t.toNat:Nat):Int)=t by omega]at e
 rw[e]
 unfold Wy.pkOf
 rw[List.getElem?_eq_getElem h']
 rfl
theorem L24_11_ok{m:Map}(hm:qcN m){x:Lor}(hx:qbz m x){p:Pt}{now:Int}{l:List Leg}{p':Pt}{n':Int}(h:qfX m x p now l p' n'):0<=p.1/\p.1<m.1.length->0<=p.2/\p.2<=500->0<=now->now+1000*l.length<=1000000->∀(pre:List Leg) (n:Nat),pre.length+l.length<=1000->l.length<n->
  L24_11 n ((now,pre++l,((pre++l).length:Int),(pre.length:Int),()),(m,x,p,()),())=some (.inr ((n',()),(p',()),())):=by
 induction h with
 |nil p now=>
  intro _ _ _ _ pre n _ hn
  obtain⟨n,rfl⟩:∃k,n=k+1:=⟨n-1,by omega⟩
  show B24_11 n (L24_11 n) now (pre++[]) ((pre++[]).length:Int) (pre.length:Int) m x p=_
  unfold B24_11
  rw[decide_eq_false (by rw[List.append_nil];omega),cond_false]
 | @cons p now i r d l p' n' h1 h2 h3 h4 h5 h6 h7 h8 ih=>
  intro ht hu h0 hb pre n hl hn
  rw[List.length_cons]at hb hl hn
  obtain⟨n,rfl⟩:∃k,n=k+1:=⟨n-1,by omega⟩
  obtain⟨a1,a2,a3,a4,a5,a6⟩:=hm.2.2 r (List.mem_of_getElem? h1)
  have hm12:=hm.1.2
  have hrest:=hx.2.2.2.2.2
  have hd2:=hx.2.2.2.2.1
  have hsu:0<=qdN m x p now d r.2.2.1:=by unfold qdN;split<;>omega
  have next:=ih (by simp only;omega) (by simp only;omega) (by omega) (by omega) (pre++[(((i:Nat):Int),d)]) n (by simp only[List.length_append,List.length_cons,List.length_nil];omega) (by omega)
  rw[List.append_assoc,List.singleton_append]at next
  rw[show((pre++[(((i:Nat):Int),d)]).length:Int)=((pre.length+1:Nat):Int) by simp]at next
  show B24_11 n (L24_11 n) now (pre++(((i:Nat):Int),d)::l) ((pre++(((i:Nat):Int),d)::l).length:Int) (pre.length:Int) m x p=_
  unfold B24_11
  have hlt:pre.length<(pre++(((i:Nat):Int),d)::l).length:=by simp
  have hat:(pre++(((i:Nat):Int),d)::l)[pre.length]? = some (((i:Nat):Int),d):=by simp
  rw[decide_eq_true (by omega),cond_true,gI hat,gI h1,ends_ok h2,g44_eq]
  simp only[dk]
  rw[decide_eq_true (show x.1<=r.2.2.2.1/\x.2.1<=r.2.2.2.2 from⟨h3,h4⟩),Bool.not_true,cond_false,decide_eq_false (by omega),cond_false,pk_at ht]
  simp only[qcf]
  rw[wr (x:=d-now) (by omega) (by omega),wi (by omega)]
  have w1:IntKind.wrap .i64 (r.1+r.2.1)=r.1+r.2.1:=wr (by omega) (by omega)
  have w2:IntKind.wrap .i64 (r.1+r.2.1-p.1)=r.1+r.2.1-p.1:=wr (by omega) (by omega)
  have w3:IntKind.wrap .i64 (d+r.2.2.1)=d+r.2.2.1:=wr (by omega) (by omega)
  have w4:IntKind.wrap .i64 (0+r.2.2.1)=r.2.2.1:=by rw[Int.zero_add];exact wr (by omega) (by omega)
  have w5:IntKind.wrap .i64 (p.2+r.2.2.1)=p.2+r.2.2.1:=wr (by omega) (by omega)
  simp only[w1,w2,w3,w4,w5]
  cases hpk:Wy.pkOf m.1 p.1 with
  |false=>
   have e:qdN m x p now d r.2.2.1=p.2+r.2.2.1:=by unfold qdN;rw[hpk,if_neg (by simp)]
   rw[e]at h7 next
   rw[cond_false,decide_eq_false (by omega),cond_false]
   exact next
  |true=>
   rw[cond_true]
   by_cases hw:d-now>=x.2.2.2.2.2
   ·have e:qdN m x p now d r.2.2.1=r.2.2.1:=by unfold qdN;rw[hpk,if_pos ⟨rfl,hw⟩]
    rw[e]at h7 next
    rw[decide_eq_true hw,cond_true,decide_eq_false (by omega),cond_false]
    exact next
   ·have e:qdN m x p now d r.2.2.1=p.2+r.2.2.1:=by unfold qdN;rw[hpk,if_neg (λh=>hw h.2)]
    rw[e]at h7 next
    rw[decide_eq_false hw,cond_false,decide_eq_false (by omega),cond_false]
    exact next
theorem L24_4_ok{m:Map}{x:Lor}(hm:m.2.length<=1000){j:List Leg}(hj:j.length<=1000)(hr:∀g∈j,(0<=g.1/\g.1<m.2.length)/\0<=g.2/\g.2<=100000):∀(n i:Nat),i<=j.length->j.length<n+i->L24_4 n ((j,j,(j.length:Int),(i:Int),()),(m,x,()),())=some (.inr ((j,()),(m,x,()),()))
 |0,i,h1,h2=>by omega
 |n+1,i,h1,h2=>by
  show B24_4 n (L24_4 n) j j (j.length:Int) (i:Int) m x=_
  unfold B24_4
  by_cases h:i<j.length
  ·obtain⟨g1,g2⟩:=hr j[i] (List.getElem_mem h)
   rw[decide_eq_true (by omega),cond_true,qbD h,wr (x:=(m.2.length:Int)-1) (by omega) (by omega),g43_eq,g43_eq]
   simp only[dk]
   rw[decide_eq_true (by omega),Bool.not_true,cond_false,decide_eq_true (by omega),Bool.not_true,cond_false,wi (by omega)]
   exact L24_4_ok hm hj hr n (i+1) (by omega) (by omega)
  ·rw[decide_eq_false (by omega),cond_false]
theorem qfX.legs{m:Map}(hm:qcN m){x:Lor}{p:Pt}{now:Int}{l:List Leg}{p':Pt}{n':Int}(h:qfX m x p now l p' n'):0<=now->(∀g∈l,(0<=g.1/\g.1<m.2.length)/\0<=g.2/\g.2<=now+1000*l.length)/\0<=n'/\n'<=now+1000*l.length:=by
 induction h with
 |nil p now=>intro h;exact⟨λg hg=>(by cases hg),h,by simp⟩
 | @cons p now i r d l p' n' h1 h2 h3 h4 h5 h6 h7 h8 ih=>
  intro h0
  obtain⟨a1,a2,a3,a4,a5,a6⟩:=hm.2.2 r (List.mem_of_getElem? h1)
  obtain⟨e1,e2,e3⟩:=ih (by omega)
  rw[List.length_cons]
  refine⟨λg hg=>?_,e2,by omega⟩
  rcases List.mem_cons.1 hg with rfl|hg
  ·have:=(List.getElem?_eq_some_iff.1 h1).1
   exact⟨⟨by simp only;omega,by simp only;omega⟩,by simp only;omega,by simp only;omega⟩
  ·have:=e1 g hg
   exact⟨this.1,this.2.1,by omega⟩
theorem g24_ok{m:Map}(hm:qcN m){x:Lor}(hx:qbz m x){j:List Leg}{p':Pt}{n':Int}(h:qfX m x (x.2.2.1,0) x.2.2.2.1 j p' n')(hj:j.length<=60):g24 (m,x,j,())=some ((p'.1,n',0,0,()),()):=by
 have hr:=hx.2.2.2.1
 obtain⟨l1,_,_⟩:=h.legs hm hr.1
 unfold g24 F24
 simp only
 rw[decide_eq_false (by omega),cond_false]
 have e1:L24_4 qn ((j,j,(j.length:Int),0,()),(m,x,()),())=_:=L24_4_ok (by have:=hm.2.1;omega) (by omega) (λg hg=>by have:=l1 g hg;exact⟨this.1,this.2.1,by omega⟩) qn 0 (by omega) (by unfold qn;omega)
 rw[e1]
 simp only[dk,qbk]
 have e2:L24_11 qn ((x.2.2.2.1,j,(j.length:Int),0,()),(m,x,(x.2.2.1,0),()),())=_:=L24_11_ok hm hx h (by simp only;exact hx.2.2.1) (by simp only;omega) hr.1 (by omega) [] qn (by simp;omega) (by unfold qn;omega)
 rw[e2]
 simp only[dk,qbs,qaf,qag,qbk]
end Go.Proofs.Try.V.Cv
