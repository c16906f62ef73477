/- The convoy's checks, plain. No condition beyond those typed in each theorem. -/
import Derived.Test.YtmlocmhkfnojbaaD9
import Derived.Test.YtmlocmhkfnojbaaFn3
namespace Go.Proofs.Try.V.Cv
open Go.Vi Go.Proofs Go.RowKit
set_option maxRecDepth 100000
abbrev Map:=(List Bool)×(List qb6)
theorem g43_eq(n lo hi:Int):g43 (n,lo,hi,())=some ((decide (lo<=n/\n<=hi),()),()):=by
 unfold g43 F43
 simp only
 by_cases h1:lo<=n
 ·rw[decide_eq_true h1,cond_true]
  simp only[h1,true_and]
 ·rw[decide_eq_false h1,cond_false,decide_eq_false (λh=>h1 h.1)]
theorem g36_eq{m:Map}(h:m.1.length<=1000000)(n:Int):g36 (m,n,())=some ((decide (0<=n/\n<m.1.length),()),()):=by
 unfold g36 F36
 simp only
 rw[wr (by omega) (by omega),g43_eq]
 simp only[dk]
 rw[decide_eq_decide.2 (show(0<=n/\n<=(m.1.length:Int)-1)↔(0<=n/\n<m.1.length) by omega)]
def qdf(m:Map)(r:qb6):Prop:=(0<=r.1/\r.1<m.1.length)/\(0<=r.2.1/\r.2.1<m.1.length)/\r.1≠r.2.1/\(1<=r.2.2.1/\r.2.2.1<=500)/\(0<=r.2.2.2.1/\r.2.2.2.1<=1000)/\(0<=r.2.2.2.2/\r.2.2.2.2<=1000)
noncomputable instance (m:Map) (r:qb6):Decidable (qdf m r):=Classical.propDecidable _
theorem g52_eq{m:Map}(h:m.1.length<=1000000)(r:qb6):g52 (r,m,())=some ((!decide (qdf m r),()),()):=by
 unfold g52 F52
 simp only
 rw[g36_eq h]
 simp only[dk]
 by_cases h1:0<=r.1/\r.1<m.1.length
 ·rw[decide_eq_true h1]
  simp only[Bool.not_true,cond_false]
  rw[g36_eq h]
  simp only[dk]
  by_cases h2:0<=r.2.1/\r.2.1<m.1.length
  ·rw[decide_eq_true h2]
   simp only[Bool.not_true,cond_false]
   by_cases h3:r.1=r.2.1
   ·rw[show(r.1==r.2.1)=true from beq_iff_eq.2 h3,cond_true]
    rw[decide_eq_false (λh:qdf m r=>h.2.2.1 h3)]
    rfl
   ·rw[show(r.1==r.2.1)=false from beq_eq_false_iff_ne.2 h3,cond_false,g43_eq]
    simp only[dk]
    by_cases h4:1<=r.2.2.1/\r.2.2.1<=500
    ·rw[decide_eq_true h4]
     simp only[Bool.not_true,cond_false]
     rw[g43_eq]
     simp only[dk]
     by_cases h5:0<=r.2.2.2.1/\r.2.2.2.1<=1000
     ·rw[decide_eq_true h5]
      simp only[Bool.not_true,cond_false]
      rw[g43_eq]
      simp only[dk]
      rw[decide_eq_decide.2 (show(0<=r.2.2.2.2/\r.2.2.2.2<=1000)↔qdf m r from⟨λh=>⟨h1,h2,h3,h4,h5,h⟩,λh=>h.2.2.2.2.2⟩)]
     ·rw[decide_eq_false h5]
      simp only[Bool.not_false,cond_true]
      rw[decide_eq_false (λh:qdf m r=>h5 h.2.2.2.2.1)]
      rfl
    ·rw[decide_eq_false h4]
     simp only[Bool.not_false,cond_true]
     rw[decide_eq_false (λh:qdf m r=>h4 h.2.2.2.1)]
     rfl
  ·rw[decide_eq_false h2]
   simp only[Bool.not_false,cond_true]
   rw[decide_eq_false (λh:qdf m r=>h2 h.2.1)]
   rfl
 ·rw[decide_eq_false h1]
  simp only[Bool.not_false,cond_true]
  rw[decide_eq_false (λh:qdf m r=>h1 h.1)]
  rfl
theorem qbD{α R:Type}{l:List α}{i:Nat}(h:i<l.length)(k:α->Option R):qs l (i:Int) k=k l[i]:=by
 unfold qs
 rw[if_pos (by omega),Int.toNat_natCast,List.getElem?_eq_getElem h]
theorem wi{i:Nat}(h:i<=100000000):IntKind.wrap .i64 ((i:Int)+1)=((i+1:Nat):Int):=by rw[wr (by omega) (by omega)];omega
theorem L64_ok{s:List qb6}{p:qb6->Bool}(hs:s.length<=1000000):∀(n i:Nat),i<=s.length->s.length<n+i->∃o,L64_2 n ((s,(λv=>some (p v)),(s.length:Int),(i:Int),()),(),())=some o/\((∃k:Int,0<=k/\o = .inl ((k,()),(),())/\∃r∈s,p r=true)\/(o = .inr ((),(),())/\∀j (h:j<s.length),i<=j->p s[j]=false))
 |0,i,h1,h2=>by omega
 |n+1,i,h1,h2=>by
  show ∃o,B64_2 n (L64_2 n) s (λv=>some (p v)) (s.length:Int) (i:Int)=_/\_
  unfold B64_2
  by_cases h:i<s.length
  ·rw[decide_eq_true (by omega),cond_true,qbD h]
   simp only[dk]
   cases hp:p s[i]with
   |true=>exact⟨_,rfl,.inl ⟨i,by omega,rfl,s[i],List.getElem_mem h,hp⟩⟩
   |false=>
    rw[cond_false,wi (by omega)]
    obtain⟨o,e1,e2⟩:=L64_ok hs n (i+1) (by omega) (by omega)
    refine⟨o,e1,e2.imp_right λ⟨e3,e4⟩=>⟨e3,λj hj hij=>?_⟩⟩
    rcases Nat.lt_or_ge i j with h5|h5
    ·exact e4 j hj h5
    ·have:j=i:=by omega
     subst this
     exact hp
  ·rw[decide_eq_false (by omega),cond_false]
   exact⟨_,rfl,.inr ⟨rfl,λj hj hij=>by omega⟩⟩
theorem g53_eq{s:List qb6}{p:qb6->Bool}(hs:s.length<=1000000):g53 (s,(λv=>some (p v)),())=some ((s.any p,()),()):=by
 unfold g53 F53 g64 F64
 simp only
 obtain⟨o,e1,e2⟩:=L64_ok (p:=p) hs qn 0 (by omega) (by unfold qn;omega)
 have e1':L64_2 qn ((s,(λv=>some (p v)),(s.length:Int),0,()),(),())=some o:=e1
 rw[e1']
 rcases e2 with⟨k,hk,rfl,r,hr,hp⟩|⟨rfl,h⟩
 ·simp only[dk,qbk]
  rw[decide_eq_true hk,List.any_eq_true.2 ⟨r,hr,hp⟩]
 ·simp only[dk,qbk]
  have:s.any p=false:=by
   rw[List.any_eq_false]
   intro r hr
   obtain⟨j,hj,rfl⟩:=List.getElem_of_mem hr
   simp[h j hj (Nat.zero_le _)]
  rw[this]
  rfl
def qcN(m:Map):Prop:=(1<=m.1.length/\m.1.length<=12)/\m.2.length<=30/\∀r∈m.2,qdf m r
theorem g35_eq{m:Map}(h1:m.1.length<=1000000)(h2:m.2.length<=1000000):∃e,g35 (m,())=some ((e,()),())/\(e=0↔qcN m)/\(e=0\/e=90):=by
 unfold g35 F35
 simp only
 have hf:(λv2=>qa (g52 (v2,m,())) λy3=>some y3.1.1)=λv2=>some (!decide (qdf m v2)):=by
  funext v
  rw[g52_eq h1]
  rfl
 rw[g43_eq,hf,g53_eq h2]
 simp only[dk]
 unfold qcN
 by_cases a1:(1:Int)<=m.1.length/\(m.1.length:Int)<=12
 ·rw[decide_eq_true a1]
  simp only[Bool.not_true,cond_false]
  by_cases a2:(m.2.length:Int)>30
  ·rw[decide_eq_true a2,cond_true]
   exact⟨90,rfl,⟨λh=>by omega,λh=>by omega⟩,.inr rfl⟩
  ·rw[decide_eq_false a2,cond_false]
   cases hany:m.2.any λv2=>!decide (qdf m v2)with
   |true=>
    rw[cond_true]
    obtain⟨r,hr,hb⟩:=List.any_eq_true.1 hany
    refine⟨90,rfl,⟨λh=>by omega,λh=>?_⟩,.inr rfl⟩
    have:=h.2.2 r hr
    simp[this]at hb
   |false=>
    rw[cond_false]
    refine⟨0,rfl,⟨λ_=>⟨by omega,by omega,λr hr=>?_⟩,λ_=>rfl⟩,.inl rfl⟩
    have:=List.any_eq_false.1 hany r hr
    simpa using this
 ·rw[decide_eq_false a1]
  simp only[Bool.not_false,cond_true]
  exact⟨90,rfl,⟨λh=>by omega,λh=>by omega⟩,.inr rfl⟩
def qbz(m:Map)(x:Lor):Prop:=(0<=x.1/\x.1<=1000)/\(0<=x.2.1/\x.2.1<=1000)/\(0<=x.2.2.1/\x.2.2.1<m.1.length)/\(0<=x.2.2.2.1/\x.2.2.2.1<=2000)/\(1<=x.2.2.2.2.1/\x.2.2.2.2.1<=500)/\(1<=x.2.2.2.2.2/\x.2.2.2.2.2<=500)
theorem L23_ok{m:Map}(hm:m.1.length<=1000000){l:List Lor}(hl:l.length<=1000000):∀(n i:Nat),i<=l.length->l.length<n+i->L23_5 n ((l,(l.length:Int),(i:Int),()),(m,()),())=some (.inl ((91,()),(),()))\/(L23_5 n ((l,(l.length:Int),(i:Int),()),(m,()),())=some (.inr ((),(),()))/\∀j (h:j<l.length),i<=j->qbz m l[j])
 |0,i,h1,h2=>by omega
 |n+1,i,h1,h2=>by
  have e0:L23_5 (n+1) ((l,(l.length:Int),(i:Int),()),(m,()),())=B23_5 n (L23_5 n) l (l.length:Int) (i:Int) m:=rfl
  rw[e0]
  unfold B23_5
  by_cases h:i<l.length
  ·rw[decide_eq_true (by omega),cond_true,qbD h]
   simp only[g43_eq,g36_eq hm,dk]
   by_cases a1:0<=l[i].1/\l[i].1<=1000
   rotate_left
   ·rw[decide_eq_false a1];exact .inl rfl
   rw[decide_eq_true a1]
   by_cases a2:0<=l[i].2.1/\l[i].2.1<=1000
   rotate_left
   ·rw[decide_eq_false a2];exact .inl rfl
   rw[decide_eq_true a2]
   by_cases a3:0<=l[i].2.2.1/\l[i].2.2.1<m.1.length
   rotate_left
   ·rw[decide_eq_false a3];exact .inl rfl
   rw[decide_eq_true a3]
   by_cases a4:0<=l[i].2.2.2.1/\l[i].2.2.2.1<=2000
   rotate_left
   ·rw[decide_eq_false a4];exact .inl rfl
   rw[decide_eq_true a4]
   by_cases a5:1<=l[i].2.2.2.2.1/\l[i].2.2.2.2.1<=500
   rotate_left
   ·rw[decide_eq_false a5];exact .inl rfl
   rw[decide_eq_true a5]
   by_cases a6:1<=l[i].2.2.2.2.2/\l[i].2.2.2.2.2<=500
   rotate_left
   ·rw[decide_eq_false a6];exact .inl rfl
   rw[decide_eq_true a6]
   simp only[Bool.not_true,cond_false]
   rw[wi (by omega)]
   refine(L23_ok hm hl n (i+1) (by omega) (by omega)).imp_right λ⟨e3,e4⟩=>⟨e3,λj hj hij=>?_⟩
   rcases Nat.lt_or_ge i j with h5|h5
   ·exact e4 j hj h5
   ·have:j=i:=by omega
    subst this
    exact⟨a1,a2,a3,a4,a5,a6⟩
  ·rw[decide_eq_false (by omega),cond_false]
   exact .inr ⟨rfl,λj hj hij=>by omega⟩
theorem g21_eq{m:Map}(h1:m.1.length<=1000000)(h2:m.2.length<=1000000){l:List Lor}(h3:l.length<=1000000)(to:Int):∃e,g21 (m,to,l,())=some ((e,()),())/\(e=0->qcN m/\l.length<=8/\(∀x∈l,qbz m x)/\0<=to/\to<m.1.length):=by
 obtain⟨e,he,h0,_⟩:=g35_eq h1 h2
 unfold g21 F21 g23 F23
 simp only
 rw[he]
 simp only[dk]
 by_cases a1:e=0
 ·subst a1
  have hm:=h0.1 rfl
  rw[show((0:Int) !=0)=false from rfl,cond_false]
  by_cases a2:(l.length:Int)>8
  ·rw[decide_eq_true a2,cond_true]
   exact⟨2,rfl,λh=>by omega⟩
  ·rw[decide_eq_false a2,cond_false]
   simp only[cond_false]
   have:=L23_ok h1 h3 qn 0 (by omega) (by unfold qn;omega)
   rcases this with hc|⟨hc,hall⟩
   ·have hc':L23_5 qn ((l,(l.length:Int),0,()),(m,()),())=_:=hc
    rw[hc']
    exact⟨91,rfl,λh=>by omega⟩
   ·have hc':L23_5 qn ((l,(l.length:Int),0,()),(m,()),())=_:=hc
    rw[hc']
    simp only[dk,qbk]
    rw[show((0:Int) !=0)=false from rfl,cond_false,g36_eq h1]
    simp only[dk]
    by_cases a3:0<=to/\to<m.1.length
    ·rw[decide_eq_true a3]
     refine⟨0,rfl,λ_=>⟨hm,by omega,λx hx=>?_,a3⟩⟩
     obtain⟨j,hj,rfl⟩:=List.getElem_of_mem hx
     exact hall j hj (Nat.zero_le _)
    ·rw[decide_eq_false a3]
     exact⟨1,rfl,λh=>by omega⟩
 ·rw[show(e !=0)=true by simpa using a1,cond_true]
  exact⟨e,rfl,λh=>absurd h a1⟩
end Go.Proofs.Try.V.Cv
