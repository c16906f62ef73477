/- Lorries that are alike arrive one behind the other, plain. No condition beyond those typed in each theorem. -/
import Derived.Test.YtmlocmhkfnojbaaE2
namespace Go.Proofs.Try.V.Cv
open Go.Vi Go.Proofs Go.RowKit
set_option maxRecDepth 100000
def qhQ(x y:Lor):Prop:=x.1=y.1/\x.2.1<=y.2.1/\x.2.2=y.2.2
section
variable {a:Atl} {out:List (Pt×Pt)} {to:Int} {best:Pt}
theorem qnu(hA:AOK a):∀(k:Nat) {p:Pt} {now:Int} {j r:List Leg},p∈Ul a.1.1.length->jr (qQ a) out to best k p now j=some r->∃t p' n',r=j++t/\p'.1=to/\∀x,qhQ x a.2->qfX a.1 x p now t p' n'
 |0,_,_,_,_,_,h=>by cases h
 |k+1,p,now,j,r,hp,h=>by
  unfold jr at h
  split at h
  ·rename_i ht
   cases h
   exact⟨[],p,now,by simp,ht,λx _=>.nil p now⟩
  ·split at h
   ·cases h
   ·rename_i w hfind
    have hwm:=List.mem_of_find?_eq_some hfind
    have hrest:=hA.rest
    have hdr:=hA.drive
    have hpt:=qnl hA hp
    obtain⟨t,p',n',h1,h2,h3⟩:=qnu hA k (hA.way hp hwm).1 h
    obtain⟨i,r0,e1,e2,e3,e4,e5,e6,e7⟩:=qfy hwm
    have hr0:=hA.road r0 (List.mem_of_getElem? e1)
    refine⟨(w.1,now+w.2.1)::t,p',n',by rw[h1,List.append_assoc];rfl,h2,λx hx=>?_⟩
    obtain⟨x1,x2,x3⟩:=hx
    have hst:qdN a.1 x p now (now+w.2.1) r0.2.2.1=(wto w).2/\now+w.2.1+r0.2.2.1=now+(wc w).1/\0<=w.2.1/\w.2.1<=500/\(wto w).2<=a.2.2.2.2.2.1:=by
     unfold qdN
     rw[x3]
     rcases e7 with⟨d1,d2,d3,d4⟩|⟨d0,d1,d2,d3,d4,d5⟩
     ·rw[if_neg (λh=>by have:=h.2;omega),d4]
      exact⟨d3.symm,by simp only;omega,by omega,by omega,by omega⟩
     ·rw[if_pos ⟨d0,by omega⟩,d5]
      exact⟨d4.symm,by simp only;omega,by omega,by omega,by omega⟩
    have hq:(r0.1+r0.2.1-p.1,qdN a.1 x p now (now+w.2.1) r0.2.2.1)=wto w:=by rw[hst.1,<-e6]
    have:=h3 x ⟨x1,x2,x3⟩
    rw[e2]
    refine .cons e1 e3 (by rw[x1];exact e4) (by omega) (by omega) (by omega) (by rw[hst.1,x3];exact hst.2.2.2.2) ?_
    rw[hq,hst.2.1]
    exact this
end
theorem qfX.arr{m:Map}{x:Lor}{p:Pt}{now:Int}{l:List Leg}{p':Pt}{n':Int}(h:qfX m x p now l p' n'):(l=[]/\n'=now)\/∃(pre:List Leg) (i:Nat) (d:Int) (r:qb6),l=pre++[((i:Int),d)]/\m.2[i]? = some r/\n'=d+r.2.2.1:=by
 induction h with
 |nil p now=>exact .inl ⟨rfl,rfl⟩
 | @cons p now i r d l p' n' h1 h2 h3 h4 h5 h6 h7 h8 ih=>
  right
  rcases ih with⟨rfl,rfl⟩|⟨pre,i',d',r',e1,e2,e3⟩
  ·exact⟨[],i,d,r,rfl,h1,rfl⟩
  ·exact⟨((i:Int),d)::pre,i',d',r',by rw[e1];rfl,e2,e3⟩
theorem L23_all{m:Map}(hm:m.1.length<=1000000){l:List Lor}(hl:l.length<=1000000)(hx:∀x∈l,qbz m x):∀(n i:Nat),i<=l.length->l.length<n+i->L23_5 n ((l,(l.length:Int),(i:Int),()),(m,()),())=some (.inr ((),(),()))
 |0,i,h1,h2=>by omega
 |n+1,i,h1,h2=>by
  show B23_5 n (L23_5 n) l (l.length:Int) (i:Int) m=_
  unfold B23_5
  by_cases h:i<l.length
  ·obtain⟨a1,a2,a3,a4,a5,a6⟩:=hx l[i] (List.getElem_mem h)
   rw[decide_eq_true (by omega),cond_true,qbD h]
   simp only[g43_eq,g36_eq hm,dk]
   rw[decide_eq_true a1,decide_eq_true a2,decide_eq_true a3,decide_eq_true a4,decide_eq_true a5,decide_eq_true a6]
   simp only[Bool.not_true,cond_false]
   rw[wi (by omega)]
   exact L23_all hm hl hx n (i+1) (by omega) (by omega)
  ·rw[decide_eq_false (by omega),cond_false]
theorem g35_ok{m:Map}(hm:qcN m):g35 (m,())=some ((0,()),()):=by
 have h1:=hm.1
 have h2:=hm.2.1
 obtain⟨e,he,h0,_⟩:=g35_eq (m:=m) (by omega) (by omega)
 rw[he,h0.2 hm]
theorem g23_all{m:Map}(hm:qcN m){l:List Lor}(hl:l.length<=100)(hx:∀x∈l,qbz m x):g23 (m,l,())=some ((0,()),()):=by
 have h1:=hm.1
 unfold g23 F23
 simp only
 rw[g35_ok hm]
 simp only[dk]
 rw[show((0:Int) !=0)=false from rfl,cond_false]
 have e:L23_5 qn ((l,(l.length:Int),0,()),(m,()),())=_:=L23_all (by omega) (by omega) hx qn 0 (by omega) (by unfold qn;omega)
 rw[e]
 simp only[dk,qbk]
theorem g21_all{m:Map}(hm:qcN m){l:List Lor}(hl:l.length<=8)(hx:∀x∈l,qbz m x){to:Int}(ht:0<=to/\to<m.1.length):g21 (m,to,l,())=some ((0,()),()):=by
 have h1:=hm.1
 unfold g21 F21
 simp only
 rw[g35_ok hm,g23_all hm (by omega) hx,g36_eq (by omega)]
 simp only[dk]
 rw[show((0:Int) !=0)=false from rfl,cond_false,decide_eq_false (by omega),cond_false,cond_false,decide_eq_true ht]
 rfl
theorem g9_ok{m:Map}(hm:qcN m){x:Lor}(hx:qbz m x){j:List Leg}{p':Pt}{n':Int}(h:qfX m x (x.2.2.1,0) x.2.2.2.1 j p' n')(hj:j.length<=60):g9 (m,x,j,())=some ((p'.1,n',0,0,()),()):=by
 unfold g9 F9
 simp only
 rw[g23_all hm (by simp) (λy hy=>by rw[List.mem_singleton.1 hy];exact hx),g24_ok hm hx h hj]
 simp only[dk]
 rfl
theorem L25_same{m:Map}(hm:qcN m){y:Lor}{to:Int}{r:List Leg}(hd:g22 ((m,y),to,())=some ((r,true,()),()))(hr:r.length<=1000){w:Int}(hw:0<=w/\w<=2000000)
  (ha:(r=[]/\w=y.2.2.2.1)\/∃(pre:List Leg) (i:Nat) (d:Int) (rd:qb6),r=pre++[((i:Int),d)]/\m.2[i]? = some rd/\w=d+rd.2.2.1) {l:List Lor} (hl:l.length<=100) (hly:∀x∈l,x=y):∀(n i k:Nat) (arr:List Int),i<=l.length->l.length<n+i->k<=i->arr.length<=i->
  ∃k':Nat,L25_8 n ((to,l,(l.length:Int),(i:Int),()),(m,((some k:Option Nat),arr),()),())=some (.inr ((),(((some k':Option Nat),arr++List.replicate (l.length-i) w),()),()))
 |0,i,_,_,h1,h2,_,_=>by omega
 |n+1,i,k,arr,h1,h2,hk,harr=>by
  show ∃k':Nat,B25_8 n (L25_8 n) to l (l.length:Int) (i:Int) m (some k,arr)=_
  unfold B25_8
  by_cases h:i<l.length
  ·rw[decide_eq_true (by omega),cond_true,qbD h,hly _ (List.getElem_mem h),hd]
   obtain⟨k',next⟩:=L25_same hm hd hr hw ha hl hly n (i+1) (k+1) (arr++[w]) (by omega) (by omega) (by omega) (by simp only[List.length_append,List.length_cons,List.length_nil];omega)
   rw[List.append_assoc,List.singleton_append,<-List.replicate_succ,show l.length-(i+1)+1=l.length-i by omega]at next
   refine⟨k',?_⟩
   simp only[dk,Bool.not_true,cond_false]
   have q1:∀{R:Type} (z:Option R),ql ((k:Int)+(([r]:List (List Leg)).length:Int)) z=z:=λz=>by rw[jR,if_pos (by simp only[List.length_cons,List.length_nil];omega)]
   have q2:∀{R:Type} (v:Int) (z:Option R),ql (((((none:Option Nat),arr).2).length:Int)+([v]:List Int).length) z=z:=λv z=>by rw[jR,if_pos (by simp only[List.length_cons,List.length_nil];omega)]
   have q3:k+([r]:List (List Leg)).length=k+1:=rfl
   have hw1:IntKind.wrap .i64 ((i:Int)+1)=((i+1:Nat):Int):=wi (by omega)
   rcases ha with⟨rfl,rfl⟩|⟨pre,i0,d,rd,rfl,e2,rfl⟩
   ·rw[decide_eq_false (by simp),cond_false]
    simp only[qbs,q1,q2,q3,dk,qaf,qag,hw1]
    exact next
   ·have hll:(pre++[((i0:Int),d)]).length=pre.length+1:=by simp
    have hwl:IntKind.wrap .i64 (((pre++[((i0:Int),d)]).length:Int)-1)=(pre.length:Int):=by
     rw[wr (by omega) (by omega)];omega
    have hat:(pre++[((i0:Int),d)])[pre.length]? = some ((i0:Int),d):=by simp
    rw[decide_eq_true (by omega),cond_true,hwl,gI hat,gI hat,gI e2]
    simp only[qbs,q1,q2,q3,dk,qaf,qag,hw1]
    rw[wr (by omega) (by omega)]
    exact next
  ·rw[decide_eq_false (by omega),cond_false]
   exact⟨k,by rw[show l.length-i=0 by omega,List.replicate_zero,List.append_nil]⟩
def qgm(w gap:Int)(n:Nat):List Int:=(List.range n).map (λk:Nat=>w+(k:Int)*gap)
theorem qiR(w gap:Int)(n:Nat):(qgm w gap n).length=n:=by simp[qgm]
theorem qnx{w gap:Int}{n i:Nat}(h:i<n):(qgm w gap n)[i]? = some (w+(i:Int)*gap):=by simp[qgm,h]
theorem gap_b{gap:Int}(hg:0<=gap/\gap<=100)(i:Nat):0<=(i:Int)*gap/\(i:Int)*gap<=100*i:=⟨Int.mul_nonneg (by omega) hg.1,by rw[Int.mul_comm];exact Int.mul_le_mul_of_nonneg_right hg.2 (by omega)⟩
theorem L26_same{k:Option Nat}{gap w:Int}(hg:0<=gap/\gap<=100)(hw:0<=w/\w<=2000000){N:Nat}(hN:N<=1000):∀(n i:Nat),i<=N->N<n+i->
  L26_2 n (((k,List.replicate N w),gap,(List.range N).map (λk:Nat=>(k:Int)),(N:Int),(i:Int),()),(qgm w gap i,()),())=some ((),(qgm w gap N,()),())
 |0,_,h1,h2=>by omega
 |n+1,i,h1,h2=>by
  show B26_2 n (L26_2 n) (k,List.replicate N w) gap ((List.range N).map (λk:Nat=>(k:Int))) (N:Int) (i:Int) (qgm w gap i)=_
  unfold B26_2
  by_cases h:i<N
  ·have hlt:i<((List.range N).map (λk:Nat=>(k:Int))).length:=by simpa using h
   rw[decide_eq_true (by omega),cond_true,qbD hlt]
   have hi:((List.range N).map (λk:Nat=>(k:Int)))[i]=(i:Int):=by simp
   have hat:(List.replicate N w)[i]? = some w:=by rw[List.getElem?_replicate,if_pos h]
   rw[hi,gI hat,wi (by omega)]
   have next:=L26_same (k:=k) hg hw hN n (i+1) (by omega) (by omega)
   have hgs:qgm w gap (i+1)=qgm w gap i++[w+(i:Int)*gap]:=by unfold qgm;rw[List.range_succ,List.map_append];rfl
   rw[hgs]at next
   have hgl:=qiR w gap i
   have hb:=gap_b hg i
   by_cases h0:(i:Int)>0
   ·obtain⟨i',rfl⟩:∃i',i=i'+1:=⟨i-1,by omega⟩
    have hb':=gap_b hg i'
    have hmul:((i'+1:Nat):Int)*gap=(i':Int)*gap+gap:=by rw[Int.natCast_add,Int.add_mul];simp
    have hwl:IntKind.wrap .i64 (((i'+1:Nat):Int)-1)=(i':Int):=by rw[wr (by omega) (by omega)];omega
    rw[decide_eq_true h0,cond_true,hwl,qaS (by omega) (by omega),gI (qnx (by omega)),wr (by omega) (by omega),jR,if_pos (by simp only[List.length_cons,List.length_nil];omega),show max w (w+(i':Int)*gap+gap)=w+((i'+1:Nat):Int)*gap by rw[hmul];omega]
    exact next
   ·rw[decide_eq_false h0,cond_false,jR,if_pos (by simp only[List.length_cons,List.length_nil];omega)]
    have hi0:i=0:=by omega
    subst hi0
    rw[show w+((0:Nat):Int)*gap=w by simp]at next
    exact next
  ·have:i=N:=by omega
   subst this
   rw[decide_eq_false (by omega),cond_false]
theorem g10_same{m:Map}(hm:qcN m){y:Lor}(hy:qbz m y){to:Int}(ht:0<=to/\to<m.1.length){r:List Leg}(hd:g22 ((m,y),to,())=some ((r,true,()),()))(hr:r.length<=1000){w:Int}(hw:0<=w/\w<=2000000)
  (ha:(r=[]/\w=y.2.2.2.1)\/∃(pre:List Leg) (i:Nat) (d:Int) (rd:qb6),r=pre++[((i:Int),d)]/\m.2[i]? = some rd/\w=d+rd.2.2.1) {l:List Lor} (hl:l.length<=8) (hly:∀x∈l,x=y) (gap:Int):
  (0<=gap/\gap<=100/\g10 (m,l,to,gap,())=some ((qgm w gap l.length,0,()),()))\/((gap<0\/gap>100)/\g10 (m,l,to,gap,())=some (([],1,()),())):=by
 have e21:g21 (m,to,l,())=some ((0,()),()):=g21_all hm hl (λx hx=>by rw[hly x hx];exact hy) ht
 unfold g10 F10
 simp only
 by_cases hg:0<=gap/\gap<=100
 ·left
  refine⟨hg.1,hg.2,?_⟩
  obtain⟨k',e1⟩:=L25_same hm hd hr hw ha (l:=l) (by omega) hly qn 0 0 [] (by omega) (by unfold qn;omega) (by omega) (by simp)
  have e1':L25_8 qn ((to,l,(l.length:Int),0,()),(m,((some 0:Option Nat),([]:List Int)),()),())=some (.inr ((),(((some k':Option Nat),List.replicate l.length w),()),())):=by simpa using e1
  have h25:g25 (m,l,to,gap,())=some ((some ((some k':Option Nat),List.replicate l.length w),0,()),()):=by
   unfold g25 F25
   simp only
   rw[e21]
   simp only[dk]
   rw[show((0:Int) !=0)=false from rfl,cond_false,g43_eq]
   simp only[dk]
   rw[decide_eq_true hg]
   simp only[Bool.not_true,cond_false]
   rw[e1']
   rfl
  rw[h25]
  simp only[dk]
  rw[show((0:Int) !=0)=false from rfl,cond_false]
  unfold g27 F27 g26 F26
  simp only
  have e2:L27_2 qn (((l.length:Int),0,()),(([]:List Int),()),())=_:=L27_ok qn l.length 0 [] (by omega) (by unfold qn;omega) (by omega) rfl
  rw[e2]
  simp only[dk]
  have hlr:((List.range l.length).map (λk:Nat=>(k:Int))).length=l.length:=by simp
  have e3:L26_2 qn (((some k',List.replicate l.length w),gap,(List.range l.length).map (λk:Nat=>(k:Int)),(l.length:Int),0,()),(([]:List Int),()),())=_:=L26_same (k:=some k') hg hw (N:=l.length) (by omega) qn 0 (by omega) (by unfold qn;omega)
  rw[hlr,e3]
  rfl
 ·right
  refine⟨by omega,?_⟩
  have h25:g25 (m,l,to,gap,())=some ((none,1,()),()):=by
   unfold g25 F25
   simp only
   rw[e21]
   simp only[dk]
   rw[show((0:Int) !=0)=false from rfl,cond_false,g43_eq]
   simp only[dk]
   rw[decide_eq_false hg]
   rfl
  rw[h25]
  rfl
end Go.Proofs.Try.V.Cv
