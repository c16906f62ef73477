/- The convoy's checks, plain. No condition beyond those typed in each theorem. -/
import Derived.Test.YtmlocmhkfnojbaaGreatD9
import Derived.Test.YtmlocmhkfnojbaaGreatFn4
namespace Go.Proofs.Tryz.V.Cv
open Go.Vi Go.Proofs Go.RowKit
set_option maxRecDepth 100000
abbrev Map:=(List Bool)×(List nN)
theorem iC(n lo hi:Int):wY (n,lo,hi,())=some ((decide (lo<=n/\n<=hi),()),()):=by
 unfold wY F30
 simp only
 by_cases h1:lo<=n
 ·rw[decide_eq_true h1,cond_true]
  simp only[h1,true_and]
 ·rw[decide_eq_false h1,cond_false,decide_eq_false (λh=>h1 h.1)]
theorem rA{m:Map}(h:m.1.length<=1000000)(n:Int):Ow (m,n,())=some ((decide (0<=n/\n<m.1.length),()),()):=by
 unfold Ow F52
 simp only
 rw[wr (by omega) (by omega),iC]
 simp only[dk]
 rw[decide_eq_decide.2 (show(0<=n/\n<=(m.1.length:Int)-1)↔(0<=n/\n<m.1.length) by omega)]
def AW(m:Map)(r:nN):Prop:=(0<=r.1/\r.1<m.1.length)/\(0<=r.2.1/\r.2.1<m.1.length)/\r.1≠r.2.1/\(1<=r.2.2.1/\r.2.2.1<=500)/\(0<=r.2.2.2.1/\r.2.2.2.1<=1000)/\(0<=r.2.2.2.2/\r.2.2.2.2<=1000)
noncomputable instance (m:Map) (r:nN):Decidable (AW m r):=Classical.propDecidable _
theorem Oo{m:Map}(h:m.1.length<=1000000)(r:nN):WG (r,m,())=some ((!decide (AW m r),()),()):=by
 unfold WG F72
 simp only
 rw[rA h]
 simp only[dk]
 by_cases h1:0<=r.1/\r.1<m.1.length
 ·rw[decide_eq_true h1]
  simp only[Bool.not_true,cond_false]
  rw[rA h]
  simp only[dk]
  by_cases h2:0<=r.2.1/\r.2.1<m.1.length
  ·rw[decide_eq_true h2]
   simp only[Bool.not_true,cond_false]
   by_cases h3:r.1=r.2.1
   ·rw[show(r.1==r.2.1)=true from beq_iff_eq.2 h3,cond_true]
    rw[decide_eq_false (λh:AW m r=>h.2.2.1 h3)]
    rfl
   ·rw[show(r.1==r.2.1)=false from beq_eq_false_iff_ne.2 h3,cond_false,iC]
    simp only[dk]
    by_cases h4:1<=r.2.2.1/\r.2.2.1<=500
    ·rw[decide_eq_true h4]
     simp only[Bool.not_true,cond_false]
     rw[iC]
     simp only[dk]
     by_cases h5:0<=r.2.2.2.1/\r.2.2.2.1<=1000
     ·rw[decide_eq_true h5]
      simp only[Bool.not_true,cond_false]
      rw[iC]
      simp only[dk]
      rw[decide_eq_decide.2 (show(0<=r.2.2.2.2/\r.2.2.2.2<=1000)↔AW m r from⟨λh=>⟨h1,h2,h3,h4,h5,h⟩,λh=>h.2.2.2.2.2⟩)]
     ·rw[decide_eq_false h5]
      simp only[Bool.not_false,cond_true]
      rw[decide_eq_false (λh:AW m r=>h5 h.2.2.2.2.1)]
      rfl
    ·rw[decide_eq_false h4]
     simp only[Bool.not_false,cond_true]
     rw[decide_eq_false (λh:AW m r=>h4 h.2.2.2.1)]
     rfl
  ·rw[decide_eq_false h2]
   simp only[Bool.not_false,cond_true]
   rw[decide_eq_false (λh:AW m r=>h2 h.2.1)]
   rfl
 ·rw[decide_eq_false h1]
  simp only[Bool.not_false,cond_true]
  rw[decide_eq_false (λh:AW m r=>h1 h.1)]
  rfl
theorem oC{α R:Type}{l:List α}{i:Nat}(h:i<l.length)(k:α->Option R):qn l (i:Int) k=k l[i]:=by
 unfold qn
 rw[if_pos (by omega),Int.toNat_natCast,List.getElem?_eq_getElem h]
theorem wi{i:Nat}(h:i<=100000000):IntKind.wrap .i64 ((i:Int)+1)=((i+1:Nat):Int):=by rw[wr (by omega) (by omega)];omega
theorem Ee{s:List nN}{p:nN->Bool}(hs:s.length<=1000000):∀(n i:Nat),i<=s.length->s.length<n+i->∃o,o_ n ((s,(λv=>some (p v)),(s.length:Int),(i:Int),()),(),())=some o/\((∃k:Int,0<=k/\o = .inl ((k,()),(),())/\∃r∈s,p r=true)\/(o = .inr ((),(),())/\∀j (h:j<s.length),i<=j->p s[j]=false))
 |0,i,h1,h2=>by omega
 |n+1,i,h1,h2=>by
  show ∃o,Fl n (o_ n) s (λv=>some (p v)) (s.length:Int) (i:Int)=_/\_
  unfold Fl
  by_cases h:i<s.length
  ·rw[decide_eq_true (by omega),cond_true,oC h]
   simp only[dk]
   cases hp:p s[i]with
   |true=>exact⟨_,rfl,.inl ⟨i,by omega,rfl,s[i],List.getElem_mem h,hp⟩⟩
   |false=>
    rw[cond_false,wi (by omega)]
    obtain⟨o,e1,e2⟩:=Ee hs n (i+1) (by omega) (by omega)
    refine⟨o,e1,e2.imp_right λ⟨e3,e4⟩=>⟨e3,λj hj hij=>?_⟩⟩
    rcases Nat.lt_or_ge i j with h5|h5
    ·exact e4 j hj h5
    ·have:j=i:=by omega
     subst this
     exact hp
  ·rw[decide_eq_false (by omega),cond_false]
   exact⟨_,rfl,.inr ⟨rfl,λj hj hij=>by omega⟩⟩
theorem On{s:List nN}{p:nN->Bool}(hs:s.length<=1000000):g73 (s,(λv=>some (p v)),())=some ((s.any p,()),()):=by
 unfold g73 F73 g93 F93
 simp only
 obtain⟨o,e1,e2⟩:=Ee (p:=p) hs qk 0 (by omega) (by unfold qk;omega)
 have Di:o_ qk ((s,(λv=>some (p v)),(s.length:Int),0,()),(),())=some o:=e1
 rw[Di]
 rcases e2 with⟨k,hk,rfl,r,hr,hp⟩|⟨rfl,h⟩
 ·simp only[dk,fD]
  rw[decide_eq_true hk,List.any_eq_true.2 ⟨r,hr,hp⟩]
 ·simp only[dk,fD]
  have:s.any p=false:=by
   rw[List.any_eq_false]
   intro r hr
   obtain⟨j,hj,rfl⟩:=List.getElem_of_mem hr
   simp[h j hj (Nat.zero_le _)]
  rw[this]
  rfl
def TC(m:Map):Prop:=(1<=m.1.length/\m.1.length<=12)/\m.2.length<=30/\∀r∈m.2,AW m r
theorem Ox{m:Map}(h1:m.1.length<=1000000)(h2:m.2.length<=1000000):∃e,WJ (m,())=some ((e,()),())/\(e=0↔TC m)/\(e=0\/e=90):=by
 unfold WJ F50
 simp only
 have hf:(λv2=>qa (WG (v2,m,())) λy3=>some y3.1.1)=λv2=>some (!decide (AW m v2)):=by
  funext v
  rw[Oo h1]
  rfl
 rw[iC,hf,On h2]
 simp only[dk]
 unfold TC
 by_cases a1:(1:Int)<=m.1.length/\(m.1.length:Int)<=12
 ·rw[decide_eq_true a1]
  simp only[Bool.not_true,cond_false]
  by_cases a2:(m.2.length:Int)>30
  ·rw[decide_eq_true a2,cond_true]
   exact⟨90,rfl,⟨λh=>by omega,λh=>by omega⟩,.inr rfl⟩
  ·rw[decide_eq_false a2,cond_false]
   cases Wu:m.2.any λv2=>!decide (AW m v2)with
   |true=>
    rw[cond_true]
    obtain⟨r,hr,hb⟩:=List.any_eq_true.1 Wu
    refine⟨90,rfl,⟨λh=>by omega,λh=>?_⟩,.inr rfl⟩
    have:=h.2.2 r hr
    simp[this]at hb
   |false=>
    rw[cond_false]
    refine⟨0,rfl,⟨λ_=>⟨by omega,by omega,λr hr=>?_⟩,λ_=>rfl⟩,.inl rfl⟩
    have:=List.any_eq_false.1 Wu r hr
    simpa using this
 ·rw[decide_eq_false a1]
  simp only[Bool.not_false,cond_true]
  exact⟨90,rfl,⟨λh=>by omega,λh=>by omega⟩,.inr rfl⟩
def YV(m:Map)(x:nG):Prop:=(0<=x.1/\x.1<=1000)/\(0<=x.2.1/\x.2.1<=1000)/\(0<=x.2.2.1/\x.2.2.1<m.1.length)/\(0<=x.2.2.2.1/\x.2.2.2.1<=2000)/\(1<=x.2.2.2.2.1/\x.2.2.2.2.1<=500)/\(1<=x.2.2.2.2.2/\x.2.2.2.2.2<=500)
theorem Ey{m:Map}(hm:m.1.length<=1000000){l:List nG}(hl:l.length<=1000000):∀(n i:Nat),i<=l.length->l.length<n+i->jg n ((l,(l.length:Int),(i:Int),()),(m,()),())=some (.inl ((91,()),(),()))\/(jg n ((l,(l.length:Int),(i:Int),()),(m,()),())=some (.inr ((),(),()))/\∀j (h:j<l.length),i<=j->YV m l[j])
 |0,i,h1,h2=>by omega
 |n+1,i,h1,h2=>by
  have e0:jg (n+1) ((l,(l.length:Int),(i:Int),()),(m,()),())=Fw n (jg n) l (l.length:Int) (i:Int) m:=rfl
  rw[e0]
  unfold Fw
  by_cases h:i<l.length
  ·rw[decide_eq_true (by omega),cond_true,oC h]
   simp only[iC,rA hm,dk]
   by_cases a1:0<=l[i].1/\l[i].1<=1000
   rotate_left
   ·rw[decide_eq_false a1];exact .inl rfl
   rw[decide_eq_true a1]
   by_cases a2:0<=l[i].2.1/\l[i].2.1<=1000
   rotate_left
   ·rw[decide_eq_false a2];exact .inl rfl
   rw[decide_eq_true a2]
   by_cases a3:0<=l[i].2.2.1/\l[i].2.2.1<m.1.length
   rotate_left
   ·rw[decide_eq_false a3];exact .inl rfl
   rw[decide_eq_true a3]
   by_cases a4:0<=l[i].2.2.2.1/\l[i].2.2.2.1<=2000
   rotate_left
   ·rw[decide_eq_false a4];exact .inl rfl
   rw[decide_eq_true a4]
   by_cases a5:1<=l[i].2.2.2.2.1/\l[i].2.2.2.2.1<=500
   rotate_left
   ·rw[decide_eq_false a5];exact .inl rfl
   rw[decide_eq_true a5]
   by_cases a6:1<=l[i].2.2.2.2.2/\l[i].2.2.2.2.2<=500
   rotate_left
   ·rw[decide_eq_false a6];exact .inl rfl
   rw[decide_eq_true a6]
   simp only[Bool.not_true,cond_false]
   rw[wi (by omega)]
   refine(Ey hm hl n (i+1) (by omega) (by omega)).imp_right λ⟨e3,e4⟩=>⟨e3,λj hj hij=>?_⟩
   rcases Nat.lt_or_ge i j with h5|h5
   ·exact e4 j hj h5
   ·have:j=i:=by omega
    subst this
    exact⟨a1,a2,a3,a4,a5,a6⟩
  ·rw[decide_eq_false (by omega),cond_false]
   exact .inr ⟨rfl,λj hj hij=>by omega⟩
theorem OD{m:Map}(h1:m.1.length<=1000000)(h2:m.2.length<=1000000){l:List nG}(h3:l.length<=1000000)(to:Int):∃e,g29 (m,to,l,())=some ((e,()),())/\(e=0->TC m/\l.length<=8/\(∀x∈l,YV m x)/\0<=to/\to<m.1.length):=by
 obtain⟨e,he,h0,_⟩:=Ox h1 h2
 unfold g29 F29 g51 F51
 simp only
 rw[he]
 simp only[dk]
 by_cases a1:e=0
 ·subst a1
  have hm:=h0.1 rfl
  rw[show((0:Int) !=0)=false from rfl,cond_false]
  by_cases a2:(l.length:Int)>8
  ·rw[decide_eq_true a2,cond_true]
   exact⟨2,rfl,λh=>by omega⟩
  ·rw[decide_eq_false a2,cond_false]
   simp only[cond_false]
   have:=Ey h1 h3 qk 0 (by omega) (by unfold qk;omega)
   rcases this with hc|⟨hc,hall⟩
   ·have hc':jg qk ((l,(l.length:Int),0,()),(m,()),())=_:=hc
    rw[hc']
    exact⟨91,rfl,λh=>by omega⟩
   ·have hc':jg qk ((l,(l.length:Int),0,()),(m,()),())=_:=hc
    rw[hc']
    simp only[dk,fD]
    rw[show((0:Int) !=0)=false from rfl,cond_false,rA h1]
    simp only[dk]
    by_cases a3:0<=to/\to<m.1.length
    ·rw[decide_eq_true a3]
     refine⟨0,rfl,λ_=>⟨hm,by omega,λx hx=>?_,a3⟩⟩
     obtain⟨j,hj,rfl⟩:=List.getElem_of_mem hx
     exact hall j hj (Nat.zero_le _)
    ·rw[decide_eq_false a3]
     exact⟨1,rfl,λh=>by omega⟩
 ·rw[show(e !=0)=true by simpa using a1,cond_true]
  exact⟨e,rfl,λh=>absurd h a1⟩
end Go.Proofs.Tryz.V.Cv
